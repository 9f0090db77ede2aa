/- gessolaw13.VectorBounds returns true, and turns nothing that was there. -/
import Derived.Test.YtoiaecfiinkmjaaWakes
namespace Go.Proofs.Ytoiaecfiinkmjaa
open Go.RowKit Go.Shelf

/-- five vectors in memory. -/
def Five (W : World) (p0 p1 p2 p3 p4 : Nat) (f g h J M : Nat → Int) : Prop :=
  Blk W p0 24 (vecC f) ∧ Blk W p1 24 (vecC g) ∧ Blk W p2 24 (vecC h) ∧ Blk W p3 24 (vecC J) ∧ Blk W p4 24 (vecC M)
theorem Five.below {W W' : World} {p0 p1 p2 p3 p4 : Nat} {f g h J M : Nat → Int} (H : Five W p0 p1 p2 p3 p4 f g h J M) (hb : Below W.heap.size W W') : Five W' p0 p1 p2 p3 p4 f g h J M :=
  ⟨H.1.below hb H.1.lt, H.2.1.below hb H.2.1.lt, H.2.2.1.below hb H.2.2.1.lt, H.2.2.2.1.below hb H.2.2.2.1.lt, H.2.2.2.2.below hb H.2.2.2.2.lt⟩

theorem covB_trans_join {f g h J : Nat → Int} (hJ : J = fun k => max (f k) (g k)) (hf : okVec f = true) (hg : okVec g = true) (hJo : okVec J = true) :
    covB J f = true ∧ covB J g = true ∧ (covB h f = true → covB h g = true → covB h J = true) := by
  refine ⟨(covB_iff _ _).2 ⟨hJo, hf, fun k _ => by rw [hJ]; (try simp only []); omega⟩, (covB_iff _ _).2 ⟨hJo, hg, fun k _ => by rw [hJ]; (try simp only []); omega⟩, fun h1 h2 => ?_⟩
  have a := (covB_iff _ _).1 h1
  have b := (covB_iff _ _).1 h2
  exact (covB_iff _ _).2 ⟨a.1, hJo, fun k hk => by have := a.2.2 k hk; have := b.2.2 k hk; rw [hJ]; (try simp only []); omega⟩
theorem covB_trans_meet {f g h M : Nat → Int} (hM : M = fun k => min (f k) (g k)) (hf : okVec f = true) (hg : okVec g = true) (hMo : okVec M = true) :
    covB f M = true ∧ covB g M = true ∧ (covB f h = true → covB g h = true → covB M h = true) := by
  refine ⟨(covB_iff _ _).2 ⟨hf, hMo, fun k _ => by rw [hM]; (try simp only []); omega⟩, (covB_iff _ _).2 ⟨hg, hMo, fun k _ => by rw [hM]; (try simp only []); omega⟩, fun h1 h2 => ?_⟩
  have a := (covB_iff _ _).1 h1
  have b := (covB_iff _ _).1 h2
  exact (covB_iff _ _).2 ⟨hMo, a.2.1, fun k hk => by have := a.2.2 k hk; have := b.2.2 k hk; rw [hM]; (try simp only []); omega⟩
theorem okVec_max {f g : Nat → Int} (hf : okVec f = true) (hg : okVec g = true) : okVec (fun k => max (f k) (g k)) = true := by
  obtain ⟨a0, a1⟩ := (okVec_iff f).1 hf
  obtain ⟨b0, b1⟩ := (okVec_iff g).1 hg
  exact (okVec_iff _).2 ⟨by simp [a0, b0], fun k h1 h2 => by have := a1 k h1 h2; have := b1 k h1 h2; (try simp only []); omega⟩
theorem okVec_min {f g : Nat → Int} (hf : okVec f = true) (hg : okVec g = true) : okVec (fun k => min (f k) (g k)) = true := by
  obtain ⟨a0, a1⟩ := (okVec_iff f).1 hf
  obtain ⟨b0, b1⟩ := (okVec_iff g).1 hg
  exact (okVec_iff _).2 ⟨by simp [a0, b0], fun k h1 h2 => by have := a1 k h1 h2; have := b1 k h1 h2; (try simp only []); omega⟩

theorem eqVec_iff (f g : Nat → Int) : eqVec f g = true ↔ ∀ k, k < 9 → f k = g k := by
  unfold eqVec
  simp only [Bool.and_eq_true, beq_iff_eq]
  constructor
  · rintro ⟨h0, h1, h2, h3, h4, h5, h6, h7, h8⟩ k hk
    rcases lt9 hk with rfl | rfl | rfl | rfl | rfl | rfl | rfl | rfl | rfl <;> assumption
  · intro h
    exact ⟨h 0 (by omega), h 1 (by omega), h 2 (by omega), h 3 (by omega), h 4 (by omega), h 5 (by omega), h 6 (by omega), h 7 (by omega), h 8 (by omega)⟩
theorem covB_refl {f : Nat → Int} (hf : okVec f = true) : covB f f = true := (covB_iff _ _).2 ⟨hf, hf, fun _ _ => Int.le_refl _⟩
theorem covB_both {f g : Nat → Int} (hf : okVec f = true) (hg : okVec g = true) :
    (covB f g = false ∧ eqVec f g = false) ∨ (covB f g = true ∧ covB g f = false ∧ eqVec f g = false) ∨ (covB f g = true ∧ covB g f = true ∧ eqVec f g = true) := by
  have himp : eqVec f g = true → covB f g = true ∧ covB g f = true := fun h => by
    have h := (eqVec_iff f g).1 h
    exact ⟨(covB_iff _ _).2 ⟨hf, hg, fun k hk => by rw [h k hk]; exact Int.le_refl _⟩, (covB_iff _ _).2 ⟨hg, hf, fun k hk => by rw [h k hk]; exact Int.le_refl _⟩⟩
  cases hx : covB f g with
  | false =>
    refine .inl ⟨rfl, ?_⟩
    cases hq : eqVec f g with
    | false => rfl
    | true => rw [(himp hq).1] at hx; cases hx
  | true =>
    cases hy : covB g f with
    | false =>
      refine .inr (.inl ⟨rfl, rfl, ?_⟩)
      cases hq : eqVec f g with
      | false => rfl
      | true => rw [(himp hq).2] at hy; cases hy
    | true =>
      have a := ((covB_iff _ _).1 hx).2.2
      have b := ((covB_iff _ _).1 hy).2.2
      exact .inr (.inr ⟨rfl, rfl, (eqVec_iff f g).2 fun k hk => Int.le_antisymm (b k hk) (a k hk)⟩)

set_option maxRecDepth 100000 in
set_option maxHeartbeats 8000000 in
theorem bounds_ok (f g h : Nat → Int) (w : World) (hf : okVec f = true) (hg : okVec g = true) :
    Calls Try.prog 3 #[vec f, vec g, vec h] w (Ret (.bool true) w) := by
  obtain ⟨J, hJ⟩ : ∃ J : Nat → Int, J = fun k => max (f k) (g k) := ⟨_, rfl⟩
  obtain ⟨M, hM⟩ : ∃ M : Nat → Int, M = fun k => min (f k) (g k) := ⟨_, rfl⟩
  have hJo : okVec J = true := by rw [hJ]; exact okVec_max hf hg
  have hMo : okVec M = true := by rw [hM]; exact okVec_min hf hg
  have hj := covB_trans_join (h := h) hJ hf hg hJo
  have hm := covB_trans_meet (h := h) hM hf hg hMo
  have KJ : Hid (∀ a c W, VSl W a 1 [g] → Calls Try.prog 8 #[vec f, .slice a 1 c] W (Ret (.tuple #[vec J, .int .i64 0]) W)) := by
    intro a c W hS; rw [hJ]; exact Join_ok f a 1 c [g] W hS (by simp [okVecs, hf, hg])
  have KM : Hid (∀ a c W, VSl W a 1 [g] → Calls Try.prog 9 #[vec f, .slice a 1 c] W (Ret (.tuple #[vec M, .int .i64 0]) W)) := by
    intro a c W hS; rw [hM]; exact Meet_ok f a 1 c [g] W hS (by simp [okVecs, hf, hg])
  have C1 : ∀ W, Calls Try.prog 10 #[vec J, vec f] W (Ret (.bool true) W) := fun W => by have := Covers_any J f W; rwa [hj.1] at this
  have C2 : ∀ W, Calls Try.prog 10 #[vec J, vec g] W (Ret (.bool true) W) := fun W => by have := Covers_any J g W; rwa [hj.2.1] at this
  have C3 : ∀ W, Calls Try.prog 10 #[vec f, vec M] W (Ret (.bool true) W) := fun W => by have := Covers_any f M W; rwa [hm.1] at this
  have C4 : ∀ W, Calls Try.prog 10 #[vec g, vec M] W (Ret (.bool true) W) := fun W => by have := Covers_any g M W; rwa [hm.2.1] at this
  replace C1 := Lib.hid C1
  replace C2 := Lib.hid C2
  replace C3 := Lib.hid C3
  replace C4 := Lib.hid C4
  have HXY := Lib.hid (covB_both hf hg)
  have D3 : Hid (∀ W, Calls Try.prog 10 #[vec f, vec f] W (Ret (.bool true) W)) := fun W => by have := Covers_any f f W; rwa [covB_refl hf] at this
  have HJ := Lib.hid hj
  have HM := Lib.hid hm
  have HF := Lib.hid hf
  have HG := Lib.hid hg
  clear hJ hM hJo hMo hj hm hf hg
  have B0 : Hid (Blk (((w.alloc (.cells (vecC f) 24)).alloc (.cells (vecC g) 24)).alloc (.cells (vecC h) 24)) w.heap.size 24 (vecC f)) := ((Blk.new _ _ _).alloc _).alloc _
  have B1 : Hid (Blk (((w.alloc (.cells (vecC f) 24)).alloc (.cells (vecC g) 24)).alloc (.cells (vecC h) 24)) (w.heap.size + 1) 24 (vecC g)) := by
    have := (Blk.new (w.alloc (.cells (vecC f) 24)) 24 (vecC g)).alloc (.cells (vecC h) 24)
    rwa [World.size_alloc] at this
  have B2 : Hid (Blk (((w.alloc (.cells (vecC f) 24)).alloc (.cells (vecC g) 24)).alloc (.cells (vecC h) 24)) (w.heap.size + 1 + 1) 24 (vecC h)) := by
    have := Blk.new ((w.alloc (.cells (vecC f) 24)).alloc (.cells (vecC g) 24)) 24 (vecC h)
    rwa [World.size_alloc, World.size_alloc] at this
  have HB0 : Hid (Below w.heap.size w (((w.alloc (.cells (vecC f) 24)).alloc (.cells (vecC g) 24)).alloc (.cells (vecC h) 24))) := by show Below _ _ _; go_grown
  go_enter Try.func3, Try.ntmps3
  unfold vec
  go_wp2_with (first
    | (go_at_call 7
       refine (wakes_any _).mono ?_
       rintro e W1 ⟨rfl, hb⟩
       have A0 := Lib.hid (B0.out.below hb B0.out.lt)
       have A1 := Lib.hid (B1.out.below hb B1.out.lt)
       have A2 := Lib.hid (B2.out.below hb B2.out.lt)
       have HB := Lib.hid (HB0.out.trans (hb.mono HB0.out.size))
       clear hb B0 B1 B2 HB0
       generalize w.heap.size + 1 + 1 = q2 at A2 ⊢
       generalize w.heap.size + 1 = q1 at A1 ⊢
       generalize hq0 : w.heap.size = q0 at A0 ⊢
       clear hq0
       obtain ⟨c0, c1, c2, c3, c4, c5, c6, c7, c8⟩ := A0.out.c9
       obtain ⟨d0, d1, d2, d3, d4, d5, d6, d7, d8⟩ := A1.out.c9)
    | (go_at_call 8
       refine (KJ.out _ _ _ (VSl_one (g := g) (Blk.new _ _ _))).mono ?_
       rintro e W2 ⟨rfl, hb⟩
       have HW : Hid (Below W1.heap.size W1 W2) := Below.trans ((Below.refl _ _).alloc (Nat.le_refl _) _) (hb.mono (by simp))
       clear hb KJ c0 c1 c2 c3 c4 c5 c6 c7 c8 d0 d1 d2 d3 d4 d5 d6 d7 d8)
    | (refine L_vstore_new (f := wZ) (.tmp 7) (.tmp 18) J rfl rfl ?_
       have HU := Lib.hid (HW.out.alloc HW.out.size (.cells (vecC J) 24))
       have V3 : Hid (Blk (W2.alloc (.cells (vecC J) 24)) W2.heap.size 24 (vecC J)) := Blk.new _ _ _
       have V0 := Lib.hid (A0.out.below HU.out A0.out.lt)
       have V1 := Lib.hid (A1.out.below HU.out A1.out.lt)
       have V2 := Lib.hid (A2.out.below HU.out A2.out.lt)
       replace HB := Lib.hid (HB.out.trans (HU.out.mono HB.out.size))
       clear HW HU A0 A1 A2
       generalize W2.alloc (.cells (vecC J) 24) = W5 at V0 V1 V2 V3 HB ⊢
       generalize W2.heap.size = b7 at V3 ⊢
       obtain ⟨c0, c1, c2, c3, c4, c5, c6, c7, c8⟩ := V0.out.c9
       obtain ⟨d0, d1, d2, d3, d4, d5, d6, d7, d8⟩ := V1.out.c9)
    | (go_at_call 9
       refine (KM.out _ _ _ (VSl_one (g := g) (Blk.new _ _ _))).mono ?_
       rintro e W6 ⟨rfl, hb⟩
       have HW : Hid (Below W5.heap.size W5 W6) := Below.trans ((Below.refl _ _).alloc (Nat.le_refl _) _) (hb.mono (by simp))
       clear hb KM c0 c1 c2 c3 c4 c5 c6 c7 c8 d0 d1 d2 d3 d4 d5 d6 d7 d8)
    | (refine L_vstore_new (f := wZ) (.tmp 9) (.tmp 25) M rfl rfl ?_
       have HU := Lib.hid (HW.out.alloc HW.out.size (.cells (vecC M) 24))
       have H5 : Hid (Five (W6.alloc (.cells (vecC M) 24)) q0 q1 q2 b7 W6.heap.size f g h J M) := ⟨V0.out.below HU.out V0.out.lt, V1.out.below HU.out V1.out.lt, V2.out.below HU.out V2.out.lt, V3.out.below HU.out V3.out.lt, Blk.new _ _ _⟩
       replace HB := Lib.hid (HB.out.trans (HU.out.mono HB.out.size))
       clear HW HU V0 V1 V2 V3
       generalize W6.alloc (.cells (vecC M) 24) = W7 at H5 HB ⊢
       generalize W6.heap.size = b9 at H5 ⊢
       obtain ⟨c0, c1, c2, c3, c4, c5, c6, c7, c8⟩ := H5.out.1.c9; obtain ⟨d0, d1, d2, d3, d4, d5, d6, d7, d8⟩ := H5.out.2.1.c9; obtain ⟨e0, e1, e2, e3, e4, e5, e6, e7, e8⟩ := H5.out.2.2.1.c9; obtain ⟨i0, i1, i2, i3, i4, i5, i6, i7, i8⟩ := H5.out.2.2.2.1.c9; obtain ⟨j0, j1, j2, j3, j4, j5, j6, j7, j8⟩ := H5.out.2.2.2.2.c9))
  refine (C1.out _).mono ?_
  rintro e X ⟨rfl, hb⟩
  replace H5 := Lib.hid (H5.out.below hb)
  replace HB := Lib.hid (HB.out.trans (hb.mono HB.out.size))
  clear hb c0 c1 c2 c3 c4 c5 c6 c7 c8 d0 d1 d2 d3 d4 d5 d6 d7 d8 e0 e1 e2 e3 e4 e5 e6 e7 e8 i0 i1 i2 i3 i4 i5 i6 i7 i8 j0 j1 j2 j3 j4 j5 j6 j7 j8
  obtain ⟨c0, c1, c2, c3, c4, c5, c6, c7, c8⟩ := H5.out.1.c9; obtain ⟨d0, d1, d2, d3, d4, d5, d6, d7, d8⟩ := H5.out.2.1.c9; obtain ⟨e0, e1, e2, e3, e4, e5, e6, e7, e8⟩ := H5.out.2.2.1.c9; obtain ⟨i0, i1, i2, i3, i4, i5, i6, i7, i8⟩ := H5.out.2.2.2.1.c9; obtain ⟨j0, j1, j2, j3, j4, j5, j6, j7, j8⟩ := H5.out.2.2.2.2.c9
  go_wp2_with fail
  refine (C2.out _).mono ?_
  rintro e X ⟨rfl, hb⟩
  replace H5 := Lib.hid (H5.out.below hb)
  replace HB := Lib.hid (HB.out.trans (hb.mono HB.out.size))
  clear hb c0 c1 c2 c3 c4 c5 c6 c7 c8 d0 d1 d2 d3 d4 d5 d6 d7 d8 e0 e1 e2 e3 e4 e5 e6 e7 e8 i0 i1 i2 i3 i4 i5 i6 i7 i8 j0 j1 j2 j3 j4 j5 j6 j7 j8
  obtain ⟨c0, c1, c2, c3, c4, c5, c6, c7, c8⟩ := H5.out.1.c9; obtain ⟨d0, d1, d2, d3, d4, d5, d6, d7, d8⟩ := H5.out.2.1.c9; obtain ⟨e0, e1, e2, e3, e4, e5, e6, e7, e8⟩ := H5.out.2.2.1.c9; obtain ⟨i0, i1, i2, i3, i4, i5, i6, i7, i8⟩ := H5.out.2.2.2.1.c9; obtain ⟨j0, j1, j2, j3, j4, j5, j6, j7, j8⟩ := H5.out.2.2.2.2.c9
  go_wp2_with fail
  refine (C3.out _).mono ?_
  rintro e X ⟨rfl, hb⟩
  replace H5 := Lib.hid (H5.out.below hb)
  replace HB := Lib.hid (HB.out.trans (hb.mono HB.out.size))
  clear hb c0 c1 c2 c3 c4 c5 c6 c7 c8 d0 d1 d2 d3 d4 d5 d6 d7 d8 e0 e1 e2 e3 e4 e5 e6 e7 e8 i0 i1 i2 i3 i4 i5 i6 i7 i8 j0 j1 j2 j3 j4 j5 j6 j7 j8
  obtain ⟨c0, c1, c2, c3, c4, c5, c6, c7, c8⟩ := H5.out.1.c9; obtain ⟨d0, d1, d2, d3, d4, d5, d6, d7, d8⟩ := H5.out.2.1.c9; obtain ⟨e0, e1, e2, e3, e4, e5, e6, e7, e8⟩ := H5.out.2.2.1.c9; obtain ⟨i0, i1, i2, i3, i4, i5, i6, i7, i8⟩ := H5.out.2.2.2.1.c9; obtain ⟨j0, j1, j2, j3, j4, j5, j6, j7, j8⟩ := H5.out.2.2.2.2.c9
  go_wp2_with fail
  refine (C4.out _).mono ?_
  rintro e X ⟨rfl, hb⟩
  replace H5 := Lib.hid (H5.out.below hb)
  replace HB := Lib.hid (HB.out.trans (hb.mono HB.out.size))
  clear hb c0 c1 c2 c3 c4 c5 c6 c7 c8 d0 d1 d2 d3 d4 d5 d6 d7 d8 e0 e1 e2 e3 e4 e5 e6 e7 e8 i0 i1 i2 i3 i4 i5 i6 i7 i8 j0 j1 j2 j3 j4 j5 j6 j7 j8
  obtain ⟨c0, c1, c2, c3, c4, c5, c6, c7, c8⟩ := H5.out.1.c9; obtain ⟨d0, d1, d2, d3, d4, d5, d6, d7, d8⟩ := H5.out.2.1.c9; obtain ⟨e0, e1, e2, e3, e4, e5, e6, e7, e8⟩ := H5.out.2.2.1.c9; obtain ⟨i0, i1, i2, i3, i4, i5, i6, i7, i8⟩ := H5.out.2.2.2.1.c9; obtain ⟨j0, j1, j2, j3, j4, j5, j6, j7, j8⟩ := H5.out.2.2.2.2.c9
  go_wp2_with fail
  refine (Covers_any h f _).mono ?_
  rintro e X ⟨rfl, hb⟩
  replace H5 := Lib.hid (H5.out.below hb)
  replace HB := Lib.hid (HB.out.trans (hb.mono HB.out.size))
  clear hb c0 c1 c2 c3 c4 c5 c6 c7 c8 d0 d1 d2 d3 d4 d5 d6 d7 d8 e0 e1 e2 e3 e4 e5 e6 e7 e8 i0 i1 i2 i3 i4 i5 i6 i7 i8 j0 j1 j2 j3 j4 j5 j6 j7 j8
  obtain ⟨c0, c1, c2, c3, c4, c5, c6, c7, c8⟩ := H5.out.1.c9; obtain ⟨d0, d1, d2, d3, d4, d5, d6, d7, d8⟩ := H5.out.2.1.c9; obtain ⟨e0, e1, e2, e3, e4, e5, e6, e7, e8⟩ := H5.out.2.2.1.c9; obtain ⟨i0, i1, i2, i3, i4, i5, i6, i7, i8⟩ := H5.out.2.2.2.1.c9; obtain ⟨j0, j1, j2, j3, j4, j5, j6, j7, j8⟩ := H5.out.2.2.2.2.c9
  cases hx : covB h f
  · clear HJ
    go_wp2_with fail
    clear hx
    refine (Covers_any f h _).mono ?_
    rintro e X ⟨rfl, hb⟩
    replace H5 := Lib.hid (H5.out.below hb)
    replace HB := Lib.hid (HB.out.trans (hb.mono HB.out.size))
    clear hb c0 c1 c2 c3 c4 c5 c6 c7 c8 d0 d1 d2 d3 d4 d5 d6 d7 d8 e0 e1 e2 e3 e4 e5 e6 e7 e8 i0 i1 i2 i3 i4 i5 i6 i7 i8 j0 j1 j2 j3 j4 j5 j6 j7 j8
    obtain ⟨c0, c1, c2, c3, c4, c5, c6, c7, c8⟩ := H5.out.1.c9; obtain ⟨d0, d1, d2, d3, d4, d5, d6, d7, d8⟩ := H5.out.2.1.c9; obtain ⟨e0, e1, e2, e3, e4, e5, e6, e7, e8⟩ := H5.out.2.2.1.c9; obtain ⟨i0, i1, i2, i3, i4, i5, i6, i7, i8⟩ := H5.out.2.2.2.1.c9; obtain ⟨j0, j1, j2, j3, j4, j5, j6, j7, j8⟩ := H5.out.2.2.2.2.c9
    cases hu : covB f h
    · clear HM
      go_wp2_with fail
      clear hu
      rcases HXY.out with ⟨hx, hq⟩ | ⟨hx, hy, hq⟩ | ⟨hx, hy, hq⟩
      · have D1 : Hid (∀ W, Calls Try.prog 10 #[vec f, vec g] W (Ret (.bool false) W)) := fun W => by have := Covers_any f g W; rwa [hx] at this
        clear hx
        unfold eqVec at hq
        obtain ⟨S, hS⟩ : ∃ S : World → Prop, S = fun Y => Below X.heap.size X Y := ⟨_, rfl⟩
        have HSd : Hid (∀ Y, S Y → Below X.heap.size X Y) := by intro Y hY; rw [hS] at hY; exact hY
        have HS5 : Hid (∀ Y, S Y → Five Y q0 q1 q2 b7 b9 f g h J M) := fun Y hY => H5.out.below (HSd.out Y hY)
        have HSn : Hid (∀ Y Y', S Y → Below Y.heap.size Y Y' → S Y') := by intro Y Y' hY hb; rw [hS] at hY ⊢; exact hY.trans (hb.mono hY.size)
        have hS0 : S X.drew := by rw [hS]; exact (Below.refl _ _).drew
        clear hS c0 c1 c2 c3 c4 c5 c6 c7 c8 d0 d1 d2 d3 d4 d5 d6 d7 d8 e0 e1 e2 e3 e4 e5 e6 e7 e8 i0 i1 i2 i3 i4 i5 i6 i7 i8 j0 j1 j2 j3 j4 j5 j6 j7 j8
        refine wp_region_held_rel 17 S (fun k u _ => match k with | 2 => u = .bool false | 6 => True | 15 => u = .bool true | _ => True) rfl (by kernel_rfl) (by kernel_rfl) (by kernel_rfl) (fun _ _ _ _ _ h => h) hS0 ?_
        clear hS0
        simp only [List.take_succ_cons, List.take_zero, List.drop_succ_cons, List.drop_zero]
        refine relSeq_on rfl (fun K hK w1 hS1 hD1 => ?_)
        obtain ⟨d0, d1, d2, d3, d4, d5, d6, d7, d8⟩ := (HS5.out w1 hS1).1.c9
        go_simp
        refine ⟨⟨trivial, hS1, Below.refl _ _⟩, hK _ ?_⟩
        clear hK hD1 d0 d1 d2 d3 d4 d5 d6 d7 d8 hS1 K w1
        refine relSeq_on rfl (fun K hK w1 hS1 hD1 => ?_)
        obtain ⟨d0, d1, d2, d3, d4, d5, d6, d7, d8⟩ := (HS5.out w1 hS1).2.1.c9
        go_simp
        refine ⟨⟨trivial, hS1, Below.refl _ _⟩, hK _ ?_⟩
        clear hK hD1 d0 d1 d2 d3 d4 d5 d6 d7 d8 hS1 K w1
        refine relSeq_on rfl (fun K hK w1 hS1 hD1 => ?_)
        go_simp
        refine ⟨(D1.out w1).mono fun e w2 he => ⟨_, he.1, rfl, HSn.out _ _ hS1 he.2, he.2⟩, fun v hv => ?_⟩
        obtain ⟨_, _, hv⟩ := hv.out
        obtain rfl : v = .bool false := hv
        refine hK _ ?_
        clear hK hD1 hS1 K w1 hv
        refine relSeq_on rfl (fun K hK w1 hS1 hD1 => ?_)
        go_simp
        refine ⟨⟨trivial, hS1, Below.refl _ _⟩, hK _ ?_⟩
        clear hK hD1 hS1 K w1
        refine relSeq_off rfl (fun _ _ => trivial) (fun K hK => ?_)
        go_simp
        refine hK _ ?_
        clear hK K
        refine relSeq_off rfl (fun _ _ => trivial) (fun K hK => ?_)
        go_simp
        refine hK _ ?_
        clear hK K
        refine relSeq_off rfl (fun _ _ => trivial) (fun K hK => ?_)
        go_simp
        refine hK _ ?_
        clear hK K
        refine relSeq_on rfl (fun K hK w1 hS1 hD1 => ?_)
        go_simp
        refine ⟨⟨trivial, hS1, Below.refl _ _⟩, hK _ ?_⟩
        clear hK hD1 hS1 K w1
        refine relSeq_on rfl (fun K hK w1 hS1 hD1 => ?_)
        obtain ⟨d0, d1, d2, d3, d4, d5, d6, d7, d8⟩ := (HS5.out w1 hS1).1.c9
        go_simp
        refine ⟨⟨trivial, hS1, Below.refl _ _⟩, hK _ ?_⟩
        clear hK hD1 d0 d1 d2 d3 d4 d5 d6 d7 d8 hS1 K w1
        refine relSeq_on rfl (fun K hK w1 hS1 hD1 => ?_)
        obtain ⟨d0, d1, d2, d3, d4, d5, d6, d7, d8⟩ := (HS5.out w1 hS1).2.1.c9
        go_simp
        refine ⟨⟨trivial, hS1, Below.refl _ _⟩, hK _ ?_⟩
        clear hK hD1 d0 d1 d2 d3 d4 d5 d6 d7 d8 hS1 K w1
        refine relSeq_on rfl (fun K hK w1 hS1 hD1 => ?_)
        go_simp
        try rw [hq]
        refine ⟨⟨trivial, hS1, Below.refl _ _⟩, hK _ ?_⟩
        clear hK hD1 hS1 K w1
        refine relSeq_on rfl (fun K hK w1 hS1 hD1 => ?_)
        go_simp
        refine ⟨⟨trivial, hS1, Below.refl _ _⟩, hK _ ?_⟩
        clear hK hD1 hS1 K w1
        refine relSeq_on rfl (fun K hK w1 hS1 hD1 => ?_)
        go_simp
        refine ⟨⟨trivial, hS1, Below.refl _ _⟩, hK _ ?_⟩
        clear hK hD1 hS1 K w1
        refine relSeq_on rfl (fun K hK w1 hS1 hD1 => ?_)
        obtain ⟨d0, d1, d2, d3, d4, d5, d6, d7, d8⟩ := (HS5.out w1 hS1).1.c9
        go_simp
        refine ⟨⟨trivial, hS1, Below.refl _ _⟩, hK _ ?_⟩
        clear hK hD1 d0 d1 d2 d3 d4 d5 d6 d7 d8 hS1 K w1
        refine relSeq_on rfl (fun K hK w1 hS1 hD1 => ?_)
        obtain ⟨d0, d1, d2, d3, d4, d5, d6, d7, d8⟩ := (HS5.out w1 hS1).1.c9
        go_simp
        refine ⟨⟨trivial, hS1, Below.refl _ _⟩, hK _ ?_⟩
        clear hK hD1 d0 d1 d2 d3 d4 d5 d6 d7 d8 hS1 K w1
        refine relSeq_on rfl (fun K hK w1 hS1 hD1 => ?_)
        go_simp
        refine ⟨(D3.out w1).mono fun e w2 he => ⟨_, he.1, rfl, HSn.out _ _ hS1 he.2, he.2⟩, fun v hv => ?_⟩
        obtain ⟨_, _, hv⟩ := hv.out
        obtain rfl : v = .bool true := hv
        refine hK _ ?_
        clear hK hD1 hS1 K w1 hv
        refine relSeq_on rfl (fun K hK w1 hS1 hD1 => ?_)
        go_simp
        refine ⟨⟨trivial, hS1, Below.refl _ _⟩, hK _ ?_⟩
        clear hK hD1 hS1 K w1
        refine relSeq_nil ?_
        intro listed w9 hS2 hF2 hl2
        have HBW := Lib.hid (HSd.out w9 hS2)
        clear hF2 hl2 HSd HSn HS5 hS2
        go_wp2
        go_ret
        exact ⟨rfl, HB.out.trans (HBW.out.mono HB.out.size)⟩
      · have D1 : Hid (∀ W, Calls Try.prog 10 #[vec f, vec g] W (Ret (.bool true) W)) := fun W => by have := Covers_any f g W; rwa [hx] at this
        have D2 : Hid (∀ W, Calls Try.prog 10 #[vec g, vec f] W (Ret (.bool false) W)) := fun W => by have := Covers_any g f W; rwa [hy] at this
        clear hx hy
        unfold eqVec at hq
        obtain ⟨S, hS⟩ : ∃ S : World → Prop, S = fun Y => Below X.heap.size X Y := ⟨_, rfl⟩
        have HSd : Hid (∀ Y, S Y → Below X.heap.size X Y) := by intro Y hY; rw [hS] at hY; exact hY
        have HS5 : Hid (∀ Y, S Y → Five Y q0 q1 q2 b7 b9 f g h J M) := fun Y hY => H5.out.below (HSd.out Y hY)
        have HSn : Hid (∀ Y Y', S Y → Below Y.heap.size Y Y' → S Y') := by intro Y Y' hY hb; rw [hS] at hY ⊢; exact hY.trans (hb.mono hY.size)
        have hS0 : S X.drew := by rw [hS]; exact (Below.refl _ _).drew
        clear hS c0 c1 c2 c3 c4 c5 c6 c7 c8 d0 d1 d2 d3 d4 d5 d6 d7 d8 e0 e1 e2 e3 e4 e5 e6 e7 e8 i0 i1 i2 i3 i4 i5 i6 i7 i8 j0 j1 j2 j3 j4 j5 j6 j7 j8
        refine wp_region_held_rel 17 S (fun k u _ => match k with | 2 => u = .bool true | 6 => u = .bool false | 15 => u = .bool true | _ => True) rfl (by kernel_rfl) (by kernel_rfl) (by kernel_rfl) (fun _ _ _ _ _ h => h) hS0 ?_
        clear hS0
        simp only [List.take_succ_cons, List.take_zero, List.drop_succ_cons, List.drop_zero]
        refine relSeq_on rfl (fun K hK w1 hS1 hD1 => ?_)
        obtain ⟨d0, d1, d2, d3, d4, d5, d6, d7, d8⟩ := (HS5.out w1 hS1).1.c9
        go_simp
        refine ⟨⟨trivial, hS1, Below.refl _ _⟩, hK _ ?_⟩
        clear hK hD1 d0 d1 d2 d3 d4 d5 d6 d7 d8 hS1 K w1
        refine relSeq_on rfl (fun K hK w1 hS1 hD1 => ?_)
        obtain ⟨d0, d1, d2, d3, d4, d5, d6, d7, d8⟩ := (HS5.out w1 hS1).2.1.c9
        go_simp
        refine ⟨⟨trivial, hS1, Below.refl _ _⟩, hK _ ?_⟩
        clear hK hD1 d0 d1 d2 d3 d4 d5 d6 d7 d8 hS1 K w1
        refine relSeq_on rfl (fun K hK w1 hS1 hD1 => ?_)
        go_simp
        refine ⟨(D1.out w1).mono fun e w2 he => ⟨_, he.1, rfl, HSn.out _ _ hS1 he.2, he.2⟩, fun v hv => ?_⟩
        obtain ⟨_, _, hv⟩ := hv.out
        obtain rfl : v = .bool true := hv
        refine hK _ ?_
        clear hK hD1 hS1 K w1 hv
        refine relSeq_on rfl (fun K hK w1 hS1 hD1 => ?_)
        go_simp
        refine ⟨⟨trivial, hS1, Below.refl _ _⟩, hK _ ?_⟩
        clear hK hD1 hS1 K w1
        refine relSeq_on rfl (fun K hK w1 hS1 hD1 => ?_)
        obtain ⟨d0, d1, d2, d3, d4, d5, d6, d7, d8⟩ := (HS5.out w1 hS1).2.1.c9
        go_simp
        refine ⟨⟨trivial, hS1, Below.refl _ _⟩, hK _ ?_⟩
        clear hK hD1 d0 d1 d2 d3 d4 d5 d6 d7 d8 hS1 K w1
        refine relSeq_on rfl (fun K hK w1 hS1 hD1 => ?_)
        obtain ⟨d0, d1, d2, d3, d4, d5, d6, d7, d8⟩ := (HS5.out w1 hS1).1.c9
        go_simp
        refine ⟨⟨trivial, hS1, Below.refl _ _⟩, hK _ ?_⟩
        clear hK hD1 d0 d1 d2 d3 d4 d5 d6 d7 d8 hS1 K w1
        refine relSeq_on rfl (fun K hK w1 hS1 hD1 => ?_)
        go_simp
        refine ⟨(D2.out w1).mono fun e w2 he => ⟨_, he.1, rfl, HSn.out _ _ hS1 he.2, he.2⟩, fun v hv => ?_⟩
        obtain ⟨_, _, hv⟩ := hv.out
        obtain rfl : v = .bool false := hv
        refine hK _ ?_
        clear hK hD1 hS1 K w1 hv
        refine relSeq_on rfl (fun K hK w1 hS1 hD1 => ?_)
        go_simp
        refine ⟨⟨trivial, hS1, Below.refl _ _⟩, hK _ ?_⟩
        clear hK hD1 hS1 K w1
        refine relSeq_on rfl (fun K hK w1 hS1 hD1 => ?_)
        obtain ⟨d0, d1, d2, d3, d4, d5, d6, d7, d8⟩ := (HS5.out w1 hS1).1.c9
        go_simp
        refine ⟨⟨trivial, hS1, Below.refl _ _⟩, hK _ ?_⟩
        clear hK hD1 d0 d1 d2 d3 d4 d5 d6 d7 d8 hS1 K w1
        refine relSeq_on rfl (fun K hK w1 hS1 hD1 => ?_)
        obtain ⟨d0, d1, d2, d3, d4, d5, d6, d7, d8⟩ := (HS5.out w1 hS1).2.1.c9
        go_simp
        refine ⟨⟨trivial, hS1, Below.refl _ _⟩, hK _ ?_⟩
        clear hK hD1 d0 d1 d2 d3 d4 d5 d6 d7 d8 hS1 K w1
        refine relSeq_on rfl (fun K hK w1 hS1 hD1 => ?_)
        go_simp
        try rw [hq]
        refine ⟨⟨trivial, hS1, Below.refl _ _⟩, hK _ ?_⟩
        clear hK hD1 hS1 K w1
        refine relSeq_on rfl (fun K hK w1 hS1 hD1 => ?_)
        go_simp
        refine ⟨⟨trivial, hS1, Below.refl _ _⟩, hK _ ?_⟩
        clear hK hD1 hS1 K w1
        refine relSeq_on rfl (fun K hK w1 hS1 hD1 => ?_)
        go_simp
        refine ⟨⟨trivial, hS1, Below.refl _ _⟩, hK _ ?_⟩
        clear hK hD1 hS1 K w1
        refine relSeq_on rfl (fun K hK w1 hS1 hD1 => ?_)
        obtain ⟨d0, d1, d2, d3, d4, d5, d6, d7, d8⟩ := (HS5.out w1 hS1).1.c9
        go_simp
        refine ⟨⟨trivial, hS1, Below.refl _ _⟩, hK _ ?_⟩
        clear hK hD1 d0 d1 d2 d3 d4 d5 d6 d7 d8 hS1 K w1
        refine relSeq_on rfl (fun K hK w1 hS1 hD1 => ?_)
        obtain ⟨d0, d1, d2, d3, d4, d5, d6, d7, d8⟩ := (HS5.out w1 hS1).1.c9
        go_simp
        refine ⟨⟨trivial, hS1, Below.refl _ _⟩, hK _ ?_⟩
        clear hK hD1 d0 d1 d2 d3 d4 d5 d6 d7 d8 hS1 K w1
        refine relSeq_on rfl (fun K hK w1 hS1 hD1 => ?_)
        go_simp
        refine ⟨(D3.out w1).mono fun e w2 he => ⟨_, he.1, rfl, HSn.out _ _ hS1 he.2, he.2⟩, fun v hv => ?_⟩
        obtain ⟨_, _, hv⟩ := hv.out
        obtain rfl : v = .bool true := hv
        refine hK _ ?_
        clear hK hD1 hS1 K w1 hv
        refine relSeq_on rfl (fun K hK w1 hS1 hD1 => ?_)
        go_simp
        refine ⟨⟨trivial, hS1, Below.refl _ _⟩, hK _ ?_⟩
        clear hK hD1 hS1 K w1
        refine relSeq_nil ?_
        intro listed w9 hS2 hF2 hl2
        have HBW := Lib.hid (HSd.out w9 hS2)
        clear hF2 hl2 HSd HSn HS5 hS2
        go_wp2
        go_ret
        exact ⟨rfl, HB.out.trans (HBW.out.mono HB.out.size)⟩
      · have D1 : Hid (∀ W, Calls Try.prog 10 #[vec f, vec g] W (Ret (.bool true) W)) := fun W => by have := Covers_any f g W; rwa [hx] at this
        have D2 : Hid (∀ W, Calls Try.prog 10 #[vec g, vec f] W (Ret (.bool true) W)) := fun W => by have := Covers_any g f W; rwa [hy] at this
        clear hx hy
        unfold eqVec at hq
        obtain ⟨S, hS⟩ : ∃ S : World → Prop, S = fun Y => Below X.heap.size X Y := ⟨_, rfl⟩
        have HSd : Hid (∀ Y, S Y → Below X.heap.size X Y) := by intro Y hY; rw [hS] at hY; exact hY
        have HS5 : Hid (∀ Y, S Y → Five Y q0 q1 q2 b7 b9 f g h J M) := fun Y hY => H5.out.below (HSd.out Y hY)
        have HSn : Hid (∀ Y Y', S Y → Below Y.heap.size Y Y' → S Y') := by intro Y Y' hY hb; rw [hS] at hY ⊢; exact hY.trans (hb.mono hY.size)
        have hS0 : S X.drew := by rw [hS]; exact (Below.refl _ _).drew
        clear hS c0 c1 c2 c3 c4 c5 c6 c7 c8 d0 d1 d2 d3 d4 d5 d6 d7 d8 e0 e1 e2 e3 e4 e5 e6 e7 e8 i0 i1 i2 i3 i4 i5 i6 i7 i8 j0 j1 j2 j3 j4 j5 j6 j7 j8
        refine wp_region_held_rel 17 S (fun k u _ => match k with | 2 => u = .bool true | 6 => u = .bool true | 15 => u = .bool true | _ => True) rfl (by kernel_rfl) (by kernel_rfl) (by kernel_rfl) (fun _ _ _ _ _ h => h) hS0 ?_
        clear hS0
        simp only [List.take_succ_cons, List.take_zero, List.drop_succ_cons, List.drop_zero]
        refine relSeq_on rfl (fun K hK w1 hS1 hD1 => ?_)
        obtain ⟨d0, d1, d2, d3, d4, d5, d6, d7, d8⟩ := (HS5.out w1 hS1).1.c9
        go_simp
        refine ⟨⟨trivial, hS1, Below.refl _ _⟩, hK _ ?_⟩
        clear hK hD1 d0 d1 d2 d3 d4 d5 d6 d7 d8 hS1 K w1
        refine relSeq_on rfl (fun K hK w1 hS1 hD1 => ?_)
        obtain ⟨d0, d1, d2, d3, d4, d5, d6, d7, d8⟩ := (HS5.out w1 hS1).2.1.c9
        go_simp
        refine ⟨⟨trivial, hS1, Below.refl _ _⟩, hK _ ?_⟩
        clear hK hD1 d0 d1 d2 d3 d4 d5 d6 d7 d8 hS1 K w1
        refine relSeq_on rfl (fun K hK w1 hS1 hD1 => ?_)
        go_simp
        refine ⟨(D1.out w1).mono fun e w2 he => ⟨_, he.1, rfl, HSn.out _ _ hS1 he.2, he.2⟩, fun v hv => ?_⟩
        obtain ⟨_, _, hv⟩ := hv.out
        obtain rfl : v = .bool true := hv
        refine hK _ ?_
        clear hK hD1 hS1 K w1 hv
        refine relSeq_on rfl (fun K hK w1 hS1 hD1 => ?_)
        go_simp
        refine ⟨⟨trivial, hS1, Below.refl _ _⟩, hK _ ?_⟩
        clear hK hD1 hS1 K w1
        refine relSeq_on rfl (fun K hK w1 hS1 hD1 => ?_)
        obtain ⟨d0, d1, d2, d3, d4, d5, d6, d7, d8⟩ := (HS5.out w1 hS1).2.1.c9
        go_simp
        refine ⟨⟨trivial, hS1, Below.refl _ _⟩, hK _ ?_⟩
        clear hK hD1 d0 d1 d2 d3 d4 d5 d6 d7 d8 hS1 K w1
        refine relSeq_on rfl (fun K hK w1 hS1 hD1 => ?_)
        obtain ⟨d0, d1, d2, d3, d4, d5, d6, d7, d8⟩ := (HS5.out w1 hS1).1.c9
        go_simp
        refine ⟨⟨trivial, hS1, Below.refl _ _⟩, hK _ ?_⟩
        clear hK hD1 d0 d1 d2 d3 d4 d5 d6 d7 d8 hS1 K w1
        refine relSeq_on rfl (fun K hK w1 hS1 hD1 => ?_)
        go_simp
        refine ⟨(D2.out w1).mono fun e w2 he => ⟨_, he.1, rfl, HSn.out _ _ hS1 he.2, he.2⟩, fun v hv => ?_⟩
        obtain ⟨_, _, hv⟩ := hv.out
        obtain rfl : v = .bool true := hv
        refine hK _ ?_
        clear hK hD1 hS1 K w1 hv
        refine relSeq_on rfl (fun K hK w1 hS1 hD1 => ?_)
        go_simp
        refine ⟨⟨trivial, hS1, Below.refl _ _⟩, hK _ ?_⟩
        clear hK hD1 hS1 K w1
        refine relSeq_on rfl (fun K hK w1 hS1 hD1 => ?_)
        obtain ⟨d0, d1, d2, d3, d4, d5, d6, d7, d8⟩ := (HS5.out w1 hS1).1.c9
        go_simp
        refine ⟨⟨trivial, hS1, Below.refl _ _⟩, hK _ ?_⟩
        clear hK hD1 d0 d1 d2 d3 d4 d5 d6 d7 d8 hS1 K w1
        refine relSeq_on rfl (fun K hK w1 hS1 hD1 => ?_)
        obtain ⟨d0, d1, d2, d3, d4, d5, d6, d7, d8⟩ := (HS5.out w1 hS1).2.1.c9
        go_simp
        refine ⟨⟨trivial, hS1, Below.refl _ _⟩, hK _ ?_⟩
        clear hK hD1 d0 d1 d2 d3 d4 d5 d6 d7 d8 hS1 K w1
        refine relSeq_on rfl (fun K hK w1 hS1 hD1 => ?_)
        go_simp
        try rw [hq]
        refine ⟨⟨trivial, hS1, Below.refl _ _⟩, hK _ ?_⟩
        clear hK hD1 hS1 K w1
        refine relSeq_on rfl (fun K hK w1 hS1 hD1 => ?_)
        go_simp
        refine ⟨⟨trivial, hS1, Below.refl _ _⟩, hK _ ?_⟩
        clear hK hD1 hS1 K w1
        refine relSeq_on rfl (fun K hK w1 hS1 hD1 => ?_)
        go_simp
        refine ⟨⟨trivial, hS1, Below.refl _ _⟩, hK _ ?_⟩
        clear hK hD1 hS1 K w1
        refine relSeq_on rfl (fun K hK w1 hS1 hD1 => ?_)
        obtain ⟨d0, d1, d2, d3, d4, d5, d6, d7, d8⟩ := (HS5.out w1 hS1).1.c9
        go_simp
        refine ⟨⟨trivial, hS1, Below.refl _ _⟩, hK _ ?_⟩
        clear hK hD1 d0 d1 d2 d3 d4 d5 d6 d7 d8 hS1 K w1
        refine relSeq_on rfl (fun K hK w1 hS1 hD1 => ?_)
        obtain ⟨d0, d1, d2, d3, d4, d5, d6, d7, d8⟩ := (HS5.out w1 hS1).1.c9
        go_simp
        refine ⟨⟨trivial, hS1, Below.refl _ _⟩, hK _ ?_⟩
        clear hK hD1 d0 d1 d2 d3 d4 d5 d6 d7 d8 hS1 K w1
        refine relSeq_on rfl (fun K hK w1 hS1 hD1 => ?_)
        go_simp
        refine ⟨(D3.out w1).mono fun e w2 he => ⟨_, he.1, rfl, HSn.out _ _ hS1 he.2, he.2⟩, fun v hv => ?_⟩
        obtain ⟨_, _, hv⟩ := hv.out
        obtain rfl : v = .bool true := hv
        refine hK _ ?_
        clear hK hD1 hS1 K w1 hv
        refine relSeq_on rfl (fun K hK w1 hS1 hD1 => ?_)
        go_simp
        refine ⟨⟨trivial, hS1, Below.refl _ _⟩, hK _ ?_⟩
        clear hK hD1 hS1 K w1
        refine relSeq_nil ?_
        intro listed w9 hS2 hF2 hl2
        have HBW := Lib.hid (HSd.out w9 hS2)
        clear hF2 hl2 HSd HSn HS5 hS2
        go_wp2
        go_ret
        exact ⟨rfl, HB.out.trans (HBW.out.mono HB.out.size)⟩
    · go_wp2_with fail
      refine (Covers_any g h _).mono ?_
      rintro e X ⟨rfl, hb⟩
      replace H5 := Lib.hid (H5.out.below hb)
      replace HB := Lib.hid (HB.out.trans (hb.mono HB.out.size))
      clear hb c0 c1 c2 c3 c4 c5 c6 c7 c8 d0 d1 d2 d3 d4 d5 d6 d7 d8 e0 e1 e2 e3 e4 e5 e6 e7 e8 i0 i1 i2 i3 i4 i5 i6 i7 i8 j0 j1 j2 j3 j4 j5 j6 j7 j8
      obtain ⟨c0, c1, c2, c3, c4, c5, c6, c7, c8⟩ := H5.out.1.c9; obtain ⟨d0, d1, d2, d3, d4, d5, d6, d7, d8⟩ := H5.out.2.1.c9; obtain ⟨e0, e1, e2, e3, e4, e5, e6, e7, e8⟩ := H5.out.2.2.1.c9; obtain ⟨i0, i1, i2, i3, i4, i5, i6, i7, i8⟩ := H5.out.2.2.2.1.c9; obtain ⟨j0, j1, j2, j3, j4, j5, j6, j7, j8⟩ := H5.out.2.2.2.2.c9
      cases hv : covB g h
      · clear HM hu
        go_wp2_with fail
        clear hv
        rcases HXY.out with ⟨hx, hq⟩ | ⟨hx, hy, hq⟩ | ⟨hx, hy, hq⟩
        · have D1 : Hid (∀ W, Calls Try.prog 10 #[vec f, vec g] W (Ret (.bool false) W)) := fun W => by have := Covers_any f g W; rwa [hx] at this
          clear hx
          unfold eqVec at hq
          obtain ⟨S, hS⟩ : ∃ S : World → Prop, S = fun Y => Below X.heap.size X Y := ⟨_, rfl⟩
          have HSd : Hid (∀ Y, S Y → Below X.heap.size X Y) := by intro Y hY; rw [hS] at hY; exact hY
          have HS5 : Hid (∀ Y, S Y → Five Y q0 q1 q2 b7 b9 f g h J M) := fun Y hY => H5.out.below (HSd.out Y hY)
          have HSn : Hid (∀ Y Y', S Y → Below Y.heap.size Y Y' → S Y') := by intro Y Y' hY hb; rw [hS] at hY ⊢; exact hY.trans (hb.mono hY.size)
          have hS0 : S X.drew := by rw [hS]; exact (Below.refl _ _).drew
          clear hS c0 c1 c2 c3 c4 c5 c6 c7 c8 d0 d1 d2 d3 d4 d5 d6 d7 d8 e0 e1 e2 e3 e4 e5 e6 e7 e8 i0 i1 i2 i3 i4 i5 i6 i7 i8 j0 j1 j2 j3 j4 j5 j6 j7 j8
          refine wp_region_held_rel 17 S (fun k u _ => match k with | 2 => u = .bool false | 6 => True | 15 => u = .bool true | _ => True) rfl (by kernel_rfl) (by kernel_rfl) (by kernel_rfl) (fun _ _ _ _ _ h => h) hS0 ?_
          clear hS0
          simp only [List.take_succ_cons, List.take_zero, List.drop_succ_cons, List.drop_zero]
          refine relSeq_on rfl (fun K hK w1 hS1 hD1 => ?_)
          obtain ⟨d0, d1, d2, d3, d4, d5, d6, d7, d8⟩ := (HS5.out w1 hS1).1.c9
          go_simp
          refine ⟨⟨trivial, hS1, Below.refl _ _⟩, hK _ ?_⟩
          clear hK hD1 d0 d1 d2 d3 d4 d5 d6 d7 d8 hS1 K w1
          refine relSeq_on rfl (fun K hK w1 hS1 hD1 => ?_)
          obtain ⟨d0, d1, d2, d3, d4, d5, d6, d7, d8⟩ := (HS5.out w1 hS1).2.1.c9
          go_simp
          refine ⟨⟨trivial, hS1, Below.refl _ _⟩, hK _ ?_⟩
          clear hK hD1 d0 d1 d2 d3 d4 d5 d6 d7 d8 hS1 K w1
          refine relSeq_on rfl (fun K hK w1 hS1 hD1 => ?_)
          go_simp
          refine ⟨(D1.out w1).mono fun e w2 he => ⟨_, he.1, rfl, HSn.out _ _ hS1 he.2, he.2⟩, fun v hv => ?_⟩
          obtain ⟨_, _, hv⟩ := hv.out
          obtain rfl : v = .bool false := hv
          refine hK _ ?_
          clear hK hD1 hS1 K w1 hv
          refine relSeq_on rfl (fun K hK w1 hS1 hD1 => ?_)
          go_simp
          refine ⟨⟨trivial, hS1, Below.refl _ _⟩, hK _ ?_⟩
          clear hK hD1 hS1 K w1
          refine relSeq_off rfl (fun _ _ => trivial) (fun K hK => ?_)
          go_simp
          refine hK _ ?_
          clear hK K
          refine relSeq_off rfl (fun _ _ => trivial) (fun K hK => ?_)
          go_simp
          refine hK _ ?_
          clear hK K
          refine relSeq_off rfl (fun _ _ => trivial) (fun K hK => ?_)
          go_simp
          refine hK _ ?_
          clear hK K
          refine relSeq_on rfl (fun K hK w1 hS1 hD1 => ?_)
          go_simp
          refine ⟨⟨trivial, hS1, Below.refl _ _⟩, hK _ ?_⟩
          clear hK hD1 hS1 K w1
          refine relSeq_on rfl (fun K hK w1 hS1 hD1 => ?_)
          obtain ⟨d0, d1, d2, d3, d4, d5, d6, d7, d8⟩ := (HS5.out w1 hS1).1.c9
          go_simp
          refine ⟨⟨trivial, hS1, Below.refl _ _⟩, hK _ ?_⟩
          clear hK hD1 d0 d1 d2 d3 d4 d5 d6 d7 d8 hS1 K w1
          refine relSeq_on rfl (fun K hK w1 hS1 hD1 => ?_)
          obtain ⟨d0, d1, d2, d3, d4, d5, d6, d7, d8⟩ := (HS5.out w1 hS1).2.1.c9
          go_simp
          refine ⟨⟨trivial, hS1, Below.refl _ _⟩, hK _ ?_⟩
          clear hK hD1 d0 d1 d2 d3 d4 d5 d6 d7 d8 hS1 K w1
          refine relSeq_on rfl (fun K hK w1 hS1 hD1 => ?_)
          go_simp
          try rw [hq]
          refine ⟨⟨trivial, hS1, Below.refl _ _⟩, hK _ ?_⟩
          clear hK hD1 hS1 K w1
          refine relSeq_on rfl (fun K hK w1 hS1 hD1 => ?_)
          go_simp
          refine ⟨⟨trivial, hS1, Below.refl _ _⟩, hK _ ?_⟩
          clear hK hD1 hS1 K w1
          refine relSeq_on rfl (fun K hK w1 hS1 hD1 => ?_)
          go_simp
          refine ⟨⟨trivial, hS1, Below.refl _ _⟩, hK _ ?_⟩
          clear hK hD1 hS1 K w1
          refine relSeq_on rfl (fun K hK w1 hS1 hD1 => ?_)
          obtain ⟨d0, d1, d2, d3, d4, d5, d6, d7, d8⟩ := (HS5.out w1 hS1).1.c9
          go_simp
          refine ⟨⟨trivial, hS1, Below.refl _ _⟩, hK _ ?_⟩
          clear hK hD1 d0 d1 d2 d3 d4 d5 d6 d7 d8 hS1 K w1
          refine relSeq_on rfl (fun K hK w1 hS1 hD1 => ?_)
          obtain ⟨d0, d1, d2, d3, d4, d5, d6, d7, d8⟩ := (HS5.out w1 hS1).1.c9
          go_simp
          refine ⟨⟨trivial, hS1, Below.refl _ _⟩, hK _ ?_⟩
          clear hK hD1 d0 d1 d2 d3 d4 d5 d6 d7 d8 hS1 K w1
          refine relSeq_on rfl (fun K hK w1 hS1 hD1 => ?_)
          go_simp
          refine ⟨(D3.out w1).mono fun e w2 he => ⟨_, he.1, rfl, HSn.out _ _ hS1 he.2, he.2⟩, fun v hv => ?_⟩
          obtain ⟨_, _, hv⟩ := hv.out
          obtain rfl : v = .bool true := hv
          refine hK _ ?_
          clear hK hD1 hS1 K w1 hv
          refine relSeq_on rfl (fun K hK w1 hS1 hD1 => ?_)
          go_simp
          refine ⟨⟨trivial, hS1, Below.refl _ _⟩, hK _ ?_⟩
          clear hK hD1 hS1 K w1
          refine relSeq_nil ?_
          intro listed w9 hS2 hF2 hl2
          have HBW := Lib.hid (HSd.out w9 hS2)
          clear hF2 hl2 HSd HSn HS5 hS2
          go_wp2
          go_ret
          exact ⟨rfl, HB.out.trans (HBW.out.mono HB.out.size)⟩
        · have D1 : Hid (∀ W, Calls Try.prog 10 #[vec f, vec g] W (Ret (.bool true) W)) := fun W => by have := Covers_any f g W; rwa [hx] at this
          have D2 : Hid (∀ W, Calls Try.prog 10 #[vec g, vec f] W (Ret (.bool false) W)) := fun W => by have := Covers_any g f W; rwa [hy] at this
          clear hx hy
          unfold eqVec at hq
          obtain ⟨S, hS⟩ : ∃ S : World → Prop, S = fun Y => Below X.heap.size X Y := ⟨_, rfl⟩
          have HSd : Hid (∀ Y, S Y → Below X.heap.size X Y) := by intro Y hY; rw [hS] at hY; exact hY
          have HS5 : Hid (∀ Y, S Y → Five Y q0 q1 q2 b7 b9 f g h J M) := fun Y hY => H5.out.below (HSd.out Y hY)
          have HSn : Hid (∀ Y Y', S Y → Below Y.heap.size Y Y' → S Y') := by intro Y Y' hY hb; rw [hS] at hY ⊢; exact hY.trans (hb.mono hY.size)
          have hS0 : S X.drew := by rw [hS]; exact (Below.refl _ _).drew
          clear hS c0 c1 c2 c3 c4 c5 c6 c7 c8 d0 d1 d2 d3 d4 d5 d6 d7 d8 e0 e1 e2 e3 e4 e5 e6 e7 e8 i0 i1 i2 i3 i4 i5 i6 i7 i8 j0 j1 j2 j3 j4 j5 j6 j7 j8
          refine wp_region_held_rel 17 S (fun k u _ => match k with | 2 => u = .bool true | 6 => u = .bool false | 15 => u = .bool true | _ => True) rfl (by kernel_rfl) (by kernel_rfl) (by kernel_rfl) (fun _ _ _ _ _ h => h) hS0 ?_
          clear hS0
          simp only [List.take_succ_cons, List.take_zero, List.drop_succ_cons, List.drop_zero]
          refine relSeq_on rfl (fun K hK w1 hS1 hD1 => ?_)
          obtain ⟨d0, d1, d2, d3, d4, d5, d6, d7, d8⟩ := (HS5.out w1 hS1).1.c9
          go_simp
          refine ⟨⟨trivial, hS1, Below.refl _ _⟩, hK _ ?_⟩
          clear hK hD1 d0 d1 d2 d3 d4 d5 d6 d7 d8 hS1 K w1
          refine relSeq_on rfl (fun K hK w1 hS1 hD1 => ?_)
          obtain ⟨d0, d1, d2, d3, d4, d5, d6, d7, d8⟩ := (HS5.out w1 hS1).2.1.c9
          go_simp
          refine ⟨⟨trivial, hS1, Below.refl _ _⟩, hK _ ?_⟩
          clear hK hD1 d0 d1 d2 d3 d4 d5 d6 d7 d8 hS1 K w1
          refine relSeq_on rfl (fun K hK w1 hS1 hD1 => ?_)
          go_simp
          refine ⟨(D1.out w1).mono fun e w2 he => ⟨_, he.1, rfl, HSn.out _ _ hS1 he.2, he.2⟩, fun v hv => ?_⟩
          obtain ⟨_, _, hv⟩ := hv.out
          obtain rfl : v = .bool true := hv
          refine hK _ ?_
          clear hK hD1 hS1 K w1 hv
          refine relSeq_on rfl (fun K hK w1 hS1 hD1 => ?_)
          go_simp
          refine ⟨⟨trivial, hS1, Below.refl _ _⟩, hK _ ?_⟩
          clear hK hD1 hS1 K w1
          refine relSeq_on rfl (fun K hK w1 hS1 hD1 => ?_)
          obtain ⟨d0, d1, d2, d3, d4, d5, d6, d7, d8⟩ := (HS5.out w1 hS1).2.1.c9
          go_simp
          refine ⟨⟨trivial, hS1, Below.refl _ _⟩, hK _ ?_⟩
          clear hK hD1 d0 d1 d2 d3 d4 d5 d6 d7 d8 hS1 K w1
          refine relSeq_on rfl (fun K hK w1 hS1 hD1 => ?_)
          obtain ⟨d0, d1, d2, d3, d4, d5, d6, d7, d8⟩ := (HS5.out w1 hS1).1.c9
          go_simp
          refine ⟨⟨trivial, hS1, Below.refl _ _⟩, hK _ ?_⟩
          clear hK hD1 d0 d1 d2 d3 d4 d5 d6 d7 d8 hS1 K w1
          refine relSeq_on rfl (fun K hK w1 hS1 hD1 => ?_)
          go_simp
          refine ⟨(D2.out w1).mono fun e w2 he => ⟨_, he.1, rfl, HSn.out _ _ hS1 he.2, he.2⟩, fun v hv => ?_⟩
          obtain ⟨_, _, hv⟩ := hv.out
          obtain rfl : v = .bool false := hv
          refine hK _ ?_
          clear hK hD1 hS1 K w1 hv
          refine relSeq_on rfl (fun K hK w1 hS1 hD1 => ?_)
          go_simp
          refine ⟨⟨trivial, hS1, Below.refl _ _⟩, hK _ ?_⟩
          clear hK hD1 hS1 K w1
          refine relSeq_on rfl (fun K hK w1 hS1 hD1 => ?_)
          obtain ⟨d0, d1, d2, d3, d4, d5, d6, d7, d8⟩ := (HS5.out w1 hS1).1.c9
          go_simp
          refine ⟨⟨trivial, hS1, Below.refl _ _⟩, hK _ ?_⟩
          clear hK hD1 d0 d1 d2 d3 d4 d5 d6 d7 d8 hS1 K w1
          refine relSeq_on rfl (fun K hK w1 hS1 hD1 => ?_)
          obtain ⟨d0, d1, d2, d3, d4, d5, d6, d7, d8⟩ := (HS5.out w1 hS1).2.1.c9
          go_simp
          refine ⟨⟨trivial, hS1, Below.refl _ _⟩, hK _ ?_⟩
          clear hK hD1 d0 d1 d2 d3 d4 d5 d6 d7 d8 hS1 K w1
          refine relSeq_on rfl (fun K hK w1 hS1 hD1 => ?_)
          go_simp
          try rw [hq]
          refine ⟨⟨trivial, hS1, Below.refl _ _⟩, hK _ ?_⟩
          clear hK hD1 hS1 K w1
          refine relSeq_on rfl (fun K hK w1 hS1 hD1 => ?_)
          go_simp
          refine ⟨⟨trivial, hS1, Below.refl _ _⟩, hK _ ?_⟩
          clear hK hD1 hS1 K w1
          refine relSeq_on rfl (fun K hK w1 hS1 hD1 => ?_)
          go_simp
          refine ⟨⟨trivial, hS1, Below.refl _ _⟩, hK _ ?_⟩
          clear hK hD1 hS1 K w1
          refine relSeq_on rfl (fun K hK w1 hS1 hD1 => ?_)
          obtain ⟨d0, d1, d2, d3, d4, d5, d6, d7, d8⟩ := (HS5.out w1 hS1).1.c9
          go_simp
          refine ⟨⟨trivial, hS1, Below.refl _ _⟩, hK _ ?_⟩
          clear hK hD1 d0 d1 d2 d3 d4 d5 d6 d7 d8 hS1 K w1
          refine relSeq_on rfl (fun K hK w1 hS1 hD1 => ?_)
          obtain ⟨d0, d1, d2, d3, d4, d5, d6, d7, d8⟩ := (HS5.out w1 hS1).1.c9
          go_simp
          refine ⟨⟨trivial, hS1, Below.refl _ _⟩, hK _ ?_⟩
          clear hK hD1 d0 d1 d2 d3 d4 d5 d6 d7 d8 hS1 K w1
          refine relSeq_on rfl (fun K hK w1 hS1 hD1 => ?_)
          go_simp
          refine ⟨(D3.out w1).mono fun e w2 he => ⟨_, he.1, rfl, HSn.out _ _ hS1 he.2, he.2⟩, fun v hv => ?_⟩
          obtain ⟨_, _, hv⟩ := hv.out
          obtain rfl : v = .bool true := hv
          refine hK _ ?_
          clear hK hD1 hS1 K w1 hv
          refine relSeq_on rfl (fun K hK w1 hS1 hD1 => ?_)
          go_simp
          refine ⟨⟨trivial, hS1, Below.refl _ _⟩, hK _ ?_⟩
          clear hK hD1 hS1 K w1
          refine relSeq_nil ?_
          intro listed w9 hS2 hF2 hl2
          have HBW := Lib.hid (HSd.out w9 hS2)
          clear hF2 hl2 HSd HSn HS5 hS2
          go_wp2
          go_ret
          exact ⟨rfl, HB.out.trans (HBW.out.mono HB.out.size)⟩
        · have D1 : Hid (∀ W, Calls Try.prog 10 #[vec f, vec g] W (Ret (.bool true) W)) := fun W => by have := Covers_any f g W; rwa [hx] at this
          have D2 : Hid (∀ W, Calls Try.prog 10 #[vec g, vec f] W (Ret (.bool true) W)) := fun W => by have := Covers_any g f W; rwa [hy] at this
          clear hx hy
          unfold eqVec at hq
          obtain ⟨S, hS⟩ : ∃ S : World → Prop, S = fun Y => Below X.heap.size X Y := ⟨_, rfl⟩
          have HSd : Hid (∀ Y, S Y → Below X.heap.size X Y) := by intro Y hY; rw [hS] at hY; exact hY
          have HS5 : Hid (∀ Y, S Y → Five Y q0 q1 q2 b7 b9 f g h J M) := fun Y hY => H5.out.below (HSd.out Y hY)
          have HSn : Hid (∀ Y Y', S Y → Below Y.heap.size Y Y' → S Y') := by intro Y Y' hY hb; rw [hS] at hY ⊢; exact hY.trans (hb.mono hY.size)
          have hS0 : S X.drew := by rw [hS]; exact (Below.refl _ _).drew
          clear hS c0 c1 c2 c3 c4 c5 c6 c7 c8 d0 d1 d2 d3 d4 d5 d6 d7 d8 e0 e1 e2 e3 e4 e5 e6 e7 e8 i0 i1 i2 i3 i4 i5 i6 i7 i8 j0 j1 j2 j3 j4 j5 j6 j7 j8
          refine wp_region_held_rel 17 S (fun k u _ => match k with | 2 => u = .bool true | 6 => u = .bool true | 15 => u = .bool true | _ => True) rfl (by kernel_rfl) (by kernel_rfl) (by kernel_rfl) (fun _ _ _ _ _ h => h) hS0 ?_
          clear hS0
          simp only [List.take_succ_cons, List.take_zero, List.drop_succ_cons, List.drop_zero]
          refine relSeq_on rfl (fun K hK w1 hS1 hD1 => ?_)
          obtain ⟨d0, d1, d2, d3, d4, d5, d6, d7, d8⟩ := (HS5.out w1 hS1).1.c9
          go_simp
          refine ⟨⟨trivial, hS1, Below.refl _ _⟩, hK _ ?_⟩
          clear hK hD1 d0 d1 d2 d3 d4 d5 d6 d7 d8 hS1 K w1
          refine relSeq_on rfl (fun K hK w1 hS1 hD1 => ?_)
          obtain ⟨d0, d1, d2, d3, d4, d5, d6, d7, d8⟩ := (HS5.out w1 hS1).2.1.c9
          go_simp
          refine ⟨⟨trivial, hS1, Below.refl _ _⟩, hK _ ?_⟩
          clear hK hD1 d0 d1 d2 d3 d4 d5 d6 d7 d8 hS1 K w1
          refine relSeq_on rfl (fun K hK w1 hS1 hD1 => ?_)
          go_simp
          refine ⟨(D1.out w1).mono fun e w2 he => ⟨_, he.1, rfl, HSn.out _ _ hS1 he.2, he.2⟩, fun v hv => ?_⟩
          obtain ⟨_, _, hv⟩ := hv.out
          obtain rfl : v = .bool true := hv
          refine hK _ ?_
          clear hK hD1 hS1 K w1 hv
          refine relSeq_on rfl (fun K hK w1 hS1 hD1 => ?_)
          go_simp
          refine ⟨⟨trivial, hS1, Below.refl _ _⟩, hK _ ?_⟩
          clear hK hD1 hS1 K w1
          refine relSeq_on rfl (fun K hK w1 hS1 hD1 => ?_)
          obtain ⟨d0, d1, d2, d3, d4, d5, d6, d7, d8⟩ := (HS5.out w1 hS1).2.1.c9
          go_simp
          refine ⟨⟨trivial, hS1, Below.refl _ _⟩, hK _ ?_⟩
          clear hK hD1 d0 d1 d2 d3 d4 d5 d6 d7 d8 hS1 K w1
          refine relSeq_on rfl (fun K hK w1 hS1 hD1 => ?_)
          obtain ⟨d0, d1, d2, d3, d4, d5, d6, d7, d8⟩ := (HS5.out w1 hS1).1.c9
          go_simp
          refine ⟨⟨trivial, hS1, Below.refl _ _⟩, hK _ ?_⟩
          clear hK hD1 d0 d1 d2 d3 d4 d5 d6 d7 d8 hS1 K w1
          refine relSeq_on rfl (fun K hK w1 hS1 hD1 => ?_)
          go_simp
          refine ⟨(D2.out w1).mono fun e w2 he => ⟨_, he.1, rfl, HSn.out _ _ hS1 he.2, he.2⟩, fun v hv => ?_⟩
          obtain ⟨_, _, hv⟩ := hv.out
          obtain rfl : v = .bool true := hv
          refine hK _ ?_
          clear hK hD1 hS1 K w1 hv
          refine relSeq_on rfl (fun K hK w1 hS1 hD1 => ?_)
          go_simp
          refine ⟨⟨trivial, hS1, Below.refl _ _⟩, hK _ ?_⟩
          clear hK hD1 hS1 K w1
          refine relSeq_on rfl (fun K hK w1 hS1 hD1 => ?_)
          obtain ⟨d0, d1, d2, d3, d4, d5, d6, d7, d8⟩ := (HS5.out w1 hS1).1.c9
          go_simp
          refine ⟨⟨trivial, hS1, Below.refl _ _⟩, hK _ ?_⟩
          clear hK hD1 d0 d1 d2 d3 d4 d5 d6 d7 d8 hS1 K w1
          refine relSeq_on rfl (fun K hK w1 hS1 hD1 => ?_)
          obtain ⟨d0, d1, d2, d3, d4, d5, d6, d7, d8⟩ := (HS5.out w1 hS1).2.1.c9
          go_simp
          refine ⟨⟨trivial, hS1, Below.refl _ _⟩, hK _ ?_⟩
          clear hK hD1 d0 d1 d2 d3 d4 d5 d6 d7 d8 hS1 K w1
          refine relSeq_on rfl (fun K hK w1 hS1 hD1 => ?_)
          go_simp
          try rw [hq]
          refine ⟨⟨trivial, hS1, Below.refl _ _⟩, hK _ ?_⟩
          clear hK hD1 hS1 K w1
          refine relSeq_on rfl (fun K hK w1 hS1 hD1 => ?_)
          go_simp
          refine ⟨⟨trivial, hS1, Below.refl _ _⟩, hK _ ?_⟩
          clear hK hD1 hS1 K w1
          refine relSeq_on rfl (fun K hK w1 hS1 hD1 => ?_)
          go_simp
          refine ⟨⟨trivial, hS1, Below.refl _ _⟩, hK _ ?_⟩
          clear hK hD1 hS1 K w1
          refine relSeq_on rfl (fun K hK w1 hS1 hD1 => ?_)
          obtain ⟨d0, d1, d2, d3, d4, d5, d6, d7, d8⟩ := (HS5.out w1 hS1).1.c9
          go_simp
          refine ⟨⟨trivial, hS1, Below.refl _ _⟩, hK _ ?_⟩
          clear hK hD1 d0 d1 d2 d3 d4 d5 d6 d7 d8 hS1 K w1
          refine relSeq_on rfl (fun K hK w1 hS1 hD1 => ?_)
          obtain ⟨d0, d1, d2, d3, d4, d5, d6, d7, d8⟩ := (HS5.out w1 hS1).1.c9
          go_simp
          refine ⟨⟨trivial, hS1, Below.refl _ _⟩, hK _ ?_⟩
          clear hK hD1 d0 d1 d2 d3 d4 d5 d6 d7 d8 hS1 K w1
          refine relSeq_on rfl (fun K hK w1 hS1 hD1 => ?_)
          go_simp
          refine ⟨(D3.out w1).mono fun e w2 he => ⟨_, he.1, rfl, HSn.out _ _ hS1 he.2, he.2⟩, fun v hv => ?_⟩
          obtain ⟨_, _, hv⟩ := hv.out
          obtain rfl : v = .bool true := hv
          refine hK _ ?_
          clear hK hD1 hS1 K w1 hv
          refine relSeq_on rfl (fun K hK w1 hS1 hD1 => ?_)
          go_simp
          refine ⟨⟨trivial, hS1, Below.refl _ _⟩, hK _ ?_⟩
          clear hK hD1 hS1 K w1
          refine relSeq_nil ?_
          intro listed w9 hS2 hF2 hl2
          have HBW := Lib.hid (HSd.out w9 hS2)
          clear hF2 hl2 HSd HSn HS5 hS2
          go_wp2
          go_ret
          exact ⟨rfl, HB.out.trans (HBW.out.mono HB.out.size)⟩
      · have C6 : Hid (∀ W, Calls Try.prog 10 #[vec M, vec h] W (Ret (.bool true) W)) := fun W => by have := Covers_any M h W; rwa [HM.out.2.2 hu hv] at this
        clear HM hu
        go_wp2_with fail
        clear hv
        refine (C6.out _).mono ?_
        rintro e X ⟨rfl, hb⟩
        replace H5 := Lib.hid (H5.out.below hb)
        replace HB := Lib.hid (HB.out.trans (hb.mono HB.out.size))
        clear hb c0 c1 c2 c3 c4 c5 c6 c7 c8 d0 d1 d2 d3 d4 d5 d6 d7 d8 e0 e1 e2 e3 e4 e5 e6 e7 e8 i0 i1 i2 i3 i4 i5 i6 i7 i8 j0 j1 j2 j3 j4 j5 j6 j7 j8
        obtain ⟨c0, c1, c2, c3, c4, c5, c6, c7, c8⟩ := H5.out.1.c9; obtain ⟨d0, d1, d2, d3, d4, d5, d6, d7, d8⟩ := H5.out.2.1.c9; obtain ⟨e0, e1, e2, e3, e4, e5, e6, e7, e8⟩ := H5.out.2.2.1.c9; obtain ⟨i0, i1, i2, i3, i4, i5, i6, i7, i8⟩ := H5.out.2.2.2.1.c9; obtain ⟨j0, j1, j2, j3, j4, j5, j6, j7, j8⟩ := H5.out.2.2.2.2.c9
        go_wp2_with fail
        rcases HXY.out with ⟨hx, hq⟩ | ⟨hx, hy, hq⟩ | ⟨hx, hy, hq⟩
        · have D1 : Hid (∀ W, Calls Try.prog 10 #[vec f, vec g] W (Ret (.bool false) W)) := fun W => by have := Covers_any f g W; rwa [hx] at this
          clear hx
          unfold eqVec at hq
          obtain ⟨S, hS⟩ : ∃ S : World → Prop, S = fun Y => Below X.heap.size X Y := ⟨_, rfl⟩
          have HSd : Hid (∀ Y, S Y → Below X.heap.size X Y) := by intro Y hY; rw [hS] at hY; exact hY
          have HS5 : Hid (∀ Y, S Y → Five Y q0 q1 q2 b7 b9 f g h J M) := fun Y hY => H5.out.below (HSd.out Y hY)
          have HSn : Hid (∀ Y Y', S Y → Below Y.heap.size Y Y' → S Y') := by intro Y Y' hY hb; rw [hS] at hY ⊢; exact hY.trans (hb.mono hY.size)
          have hS0 : S X.drew := by rw [hS]; exact (Below.refl _ _).drew
          clear hS c0 c1 c2 c3 c4 c5 c6 c7 c8 d0 d1 d2 d3 d4 d5 d6 d7 d8 e0 e1 e2 e3 e4 e5 e6 e7 e8 i0 i1 i2 i3 i4 i5 i6 i7 i8 j0 j1 j2 j3 j4 j5 j6 j7 j8
          refine wp_region_held_rel 17 S (fun k u _ => match k with | 2 => u = .bool false | 6 => True | 15 => u = .bool true | _ => True) rfl (by kernel_rfl) (by kernel_rfl) (by kernel_rfl) (fun _ _ _ _ _ h => h) hS0 ?_
          clear hS0
          simp only [List.take_succ_cons, List.take_zero, List.drop_succ_cons, List.drop_zero]
          refine relSeq_on rfl (fun K hK w1 hS1 hD1 => ?_)
          obtain ⟨d0, d1, d2, d3, d4, d5, d6, d7, d8⟩ := (HS5.out w1 hS1).1.c9
          go_simp
          refine ⟨⟨trivial, hS1, Below.refl _ _⟩, hK _ ?_⟩
          clear hK hD1 d0 d1 d2 d3 d4 d5 d6 d7 d8 hS1 K w1
          refine relSeq_on rfl (fun K hK w1 hS1 hD1 => ?_)
          obtain ⟨d0, d1, d2, d3, d4, d5, d6, d7, d8⟩ := (HS5.out w1 hS1).2.1.c9
          go_simp
          refine ⟨⟨trivial, hS1, Below.refl _ _⟩, hK _ ?_⟩
          clear hK hD1 d0 d1 d2 d3 d4 d5 d6 d7 d8 hS1 K w1
          refine relSeq_on rfl (fun K hK w1 hS1 hD1 => ?_)
          go_simp
          refine ⟨(D1.out w1).mono fun e w2 he => ⟨_, he.1, rfl, HSn.out _ _ hS1 he.2, he.2⟩, fun v hv => ?_⟩
          obtain ⟨_, _, hv⟩ := hv.out
          obtain rfl : v = .bool false := hv
          refine hK _ ?_
          clear hK hD1 hS1 K w1 hv
          refine relSeq_on rfl (fun K hK w1 hS1 hD1 => ?_)
          go_simp
          refine ⟨⟨trivial, hS1, Below.refl _ _⟩, hK _ ?_⟩
          clear hK hD1 hS1 K w1
          refine relSeq_off rfl (fun _ _ => trivial) (fun K hK => ?_)
          go_simp
          refine hK _ ?_
          clear hK K
          refine relSeq_off rfl (fun _ _ => trivial) (fun K hK => ?_)
          go_simp
          refine hK _ ?_
          clear hK K
          refine relSeq_off rfl (fun _ _ => trivial) (fun K hK => ?_)
          go_simp
          refine hK _ ?_
          clear hK K
          refine relSeq_on rfl (fun K hK w1 hS1 hD1 => ?_)
          go_simp
          refine ⟨⟨trivial, hS1, Below.refl _ _⟩, hK _ ?_⟩
          clear hK hD1 hS1 K w1
          refine relSeq_on rfl (fun K hK w1 hS1 hD1 => ?_)
          obtain ⟨d0, d1, d2, d3, d4, d5, d6, d7, d8⟩ := (HS5.out w1 hS1).1.c9
          go_simp
          refine ⟨⟨trivial, hS1, Below.refl _ _⟩, hK _ ?_⟩
          clear hK hD1 d0 d1 d2 d3 d4 d5 d6 d7 d8 hS1 K w1
          refine relSeq_on rfl (fun K hK w1 hS1 hD1 => ?_)
          obtain ⟨d0, d1, d2, d3, d4, d5, d6, d7, d8⟩ := (HS5.out w1 hS1).2.1.c9
          go_simp
          refine ⟨⟨trivial, hS1, Below.refl _ _⟩, hK _ ?_⟩
          clear hK hD1 d0 d1 d2 d3 d4 d5 d6 d7 d8 hS1 K w1
          refine relSeq_on rfl (fun K hK w1 hS1 hD1 => ?_)
          go_simp
          try rw [hq]
          refine ⟨⟨trivial, hS1, Below.refl _ _⟩, hK _ ?_⟩
          clear hK hD1 hS1 K w1
          refine relSeq_on rfl (fun K hK w1 hS1 hD1 => ?_)
          go_simp
          refine ⟨⟨trivial, hS1, Below.refl _ _⟩, hK _ ?_⟩
          clear hK hD1 hS1 K w1
          refine relSeq_on rfl (fun K hK w1 hS1 hD1 => ?_)
          go_simp
          refine ⟨⟨trivial, hS1, Below.refl _ _⟩, hK _ ?_⟩
          clear hK hD1 hS1 K w1
          refine relSeq_on rfl (fun K hK w1 hS1 hD1 => ?_)
          obtain ⟨d0, d1, d2, d3, d4, d5, d6, d7, d8⟩ := (HS5.out w1 hS1).1.c9
          go_simp
          refine ⟨⟨trivial, hS1, Below.refl _ _⟩, hK _ ?_⟩
          clear hK hD1 d0 d1 d2 d3 d4 d5 d6 d7 d8 hS1 K w1
          refine relSeq_on rfl (fun K hK w1 hS1 hD1 => ?_)
          obtain ⟨d0, d1, d2, d3, d4, d5, d6, d7, d8⟩ := (HS5.out w1 hS1).1.c9
          go_simp
          refine ⟨⟨trivial, hS1, Below.refl _ _⟩, hK _ ?_⟩
          clear hK hD1 d0 d1 d2 d3 d4 d5 d6 d7 d8 hS1 K w1
          refine relSeq_on rfl (fun K hK w1 hS1 hD1 => ?_)
          go_simp
          refine ⟨(D3.out w1).mono fun e w2 he => ⟨_, he.1, rfl, HSn.out _ _ hS1 he.2, he.2⟩, fun v hv => ?_⟩
          obtain ⟨_, _, hv⟩ := hv.out
          obtain rfl : v = .bool true := hv
          refine hK _ ?_
          clear hK hD1 hS1 K w1 hv
          refine relSeq_on rfl (fun K hK w1 hS1 hD1 => ?_)
          go_simp
          refine ⟨⟨trivial, hS1, Below.refl _ _⟩, hK _ ?_⟩
          clear hK hD1 hS1 K w1
          refine relSeq_nil ?_
          intro listed w9 hS2 hF2 hl2
          have HBW := Lib.hid (HSd.out w9 hS2)
          clear hF2 hl2 HSd HSn HS5 hS2
          go_wp2
          go_ret
          exact ⟨rfl, HB.out.trans (HBW.out.mono HB.out.size)⟩
        · have D1 : Hid (∀ W, Calls Try.prog 10 #[vec f, vec g] W (Ret (.bool true) W)) := fun W => by have := Covers_any f g W; rwa [hx] at this
          have D2 : Hid (∀ W, Calls Try.prog 10 #[vec g, vec f] W (Ret (.bool false) W)) := fun W => by have := Covers_any g f W; rwa [hy] at this
          clear hx hy
          unfold eqVec at hq
          obtain ⟨S, hS⟩ : ∃ S : World → Prop, S = fun Y => Below X.heap.size X Y := ⟨_, rfl⟩
          have HSd : Hid (∀ Y, S Y → Below X.heap.size X Y) := by intro Y hY; rw [hS] at hY; exact hY
          have HS5 : Hid (∀ Y, S Y → Five Y q0 q1 q2 b7 b9 f g h J M) := fun Y hY => H5.out.below (HSd.out Y hY)
          have HSn : Hid (∀ Y Y', S Y → Below Y.heap.size Y Y' → S Y') := by intro Y Y' hY hb; rw [hS] at hY ⊢; exact hY.trans (hb.mono hY.size)
          have hS0 : S X.drew := by rw [hS]; exact (Below.refl _ _).drew
          clear hS c0 c1 c2 c3 c4 c5 c6 c7 c8 d0 d1 d2 d3 d4 d5 d6 d7 d8 e0 e1 e2 e3 e4 e5 e6 e7 e8 i0 i1 i2 i3 i4 i5 i6 i7 i8 j0 j1 j2 j3 j4 j5 j6 j7 j8
          refine wp_region_held_rel 17 S (fun k u _ => match k with | 2 => u = .bool true | 6 => u = .bool false | 15 => u = .bool true | _ => True) rfl (by kernel_rfl) (by kernel_rfl) (by kernel_rfl) (fun _ _ _ _ _ h => h) hS0 ?_
          clear hS0
          simp only [List.take_succ_cons, List.take_zero, List.drop_succ_cons, List.drop_zero]
          refine relSeq_on rfl (fun K hK w1 hS1 hD1 => ?_)
          obtain ⟨d0, d1, d2, d3, d4, d5, d6, d7, d8⟩ := (HS5.out w1 hS1).1.c9
          go_simp
          refine ⟨⟨trivial, hS1, Below.refl _ _⟩, hK _ ?_⟩
          clear hK hD1 d0 d1 d2 d3 d4 d5 d6 d7 d8 hS1 K w1
          refine relSeq_on rfl (fun K hK w1 hS1 hD1 => ?_)
          obtain ⟨d0, d1, d2, d3, d4, d5, d6, d7, d8⟩ := (HS5.out w1 hS1).2.1.c9
          go_simp
          refine ⟨⟨trivial, hS1, Below.refl _ _⟩, hK _ ?_⟩
          clear hK hD1 d0 d1 d2 d3 d4 d5 d6 d7 d8 hS1 K w1
          refine relSeq_on rfl (fun K hK w1 hS1 hD1 => ?_)
          go_simp
          refine ⟨(D1.out w1).mono fun e w2 he => ⟨_, he.1, rfl, HSn.out _ _ hS1 he.2, he.2⟩, fun v hv => ?_⟩
          obtain ⟨_, _, hv⟩ := hv.out
          obtain rfl : v = .bool true := hv
          refine hK _ ?_
          clear hK hD1 hS1 K w1 hv
          refine relSeq_on rfl (fun K hK w1 hS1 hD1 => ?_)
          go_simp
          refine ⟨⟨trivial, hS1, Below.refl _ _⟩, hK _ ?_⟩
          clear hK hD1 hS1 K w1
          refine relSeq_on rfl (fun K hK w1 hS1 hD1 => ?_)
          obtain ⟨d0, d1, d2, d3, d4, d5, d6, d7, d8⟩ := (HS5.out w1 hS1).2.1.c9
          go_simp
          refine ⟨⟨trivial, hS1, Below.refl _ _⟩, hK _ ?_⟩
          clear hK hD1 d0 d1 d2 d3 d4 d5 d6 d7 d8 hS1 K w1
          refine relSeq_on rfl (fun K hK w1 hS1 hD1 => ?_)
          obtain ⟨d0, d1, d2, d3, d4, d5, d6, d7, d8⟩ := (HS5.out w1 hS1).1.c9
          go_simp
          refine ⟨⟨trivial, hS1, Below.refl _ _⟩, hK _ ?_⟩
          clear hK hD1 d0 d1 d2 d3 d4 d5 d6 d7 d8 hS1 K w1
          refine relSeq_on rfl (fun K hK w1 hS1 hD1 => ?_)
          go_simp
          refine ⟨(D2.out w1).mono fun e w2 he => ⟨_, he.1, rfl, HSn.out _ _ hS1 he.2, he.2⟩, fun v hv => ?_⟩
          obtain ⟨_, _, hv⟩ := hv.out
          obtain rfl : v = .bool false := hv
          refine hK _ ?_
          clear hK hD1 hS1 K w1 hv
          refine relSeq_on rfl (fun K hK w1 hS1 hD1 => ?_)
          go_simp
          refine ⟨⟨trivial, hS1, Below.refl _ _⟩, hK _ ?_⟩
          clear hK hD1 hS1 K w1
          refine relSeq_on rfl (fun K hK w1 hS1 hD1 => ?_)
          obtain ⟨d0, d1, d2, d3, d4, d5, d6, d7, d8⟩ := (HS5.out w1 hS1).1.c9
          go_simp
          refine ⟨⟨trivial, hS1, Below.refl _ _⟩, hK _ ?_⟩
          clear hK hD1 d0 d1 d2 d3 d4 d5 d6 d7 d8 hS1 K w1
          refine relSeq_on rfl (fun K hK w1 hS1 hD1 => ?_)
          obtain ⟨d0, d1, d2, d3, d4, d5, d6, d7, d8⟩ := (HS5.out w1 hS1).2.1.c9
          go_simp
          refine ⟨⟨trivial, hS1, Below.refl _ _⟩, hK _ ?_⟩
          clear hK hD1 d0 d1 d2 d3 d4 d5 d6 d7 d8 hS1 K w1
          refine relSeq_on rfl (fun K hK w1 hS1 hD1 => ?_)
          go_simp
          try rw [hq]
          refine ⟨⟨trivial, hS1, Below.refl _ _⟩, hK _ ?_⟩
          clear hK hD1 hS1 K w1
          refine relSeq_on rfl (fun K hK w1 hS1 hD1 => ?_)
          go_simp
          refine ⟨⟨trivial, hS1, Below.refl _ _⟩, hK _ ?_⟩
          clear hK hD1 hS1 K w1
          refine relSeq_on rfl (fun K hK w1 hS1 hD1 => ?_)
          go_simp
          refine ⟨⟨trivial, hS1, Below.refl _ _⟩, hK _ ?_⟩
          clear hK hD1 hS1 K w1
          refine relSeq_on rfl (fun K hK w1 hS1 hD1 => ?_)
          obtain ⟨d0, d1, d2, d3, d4, d5, d6, d7, d8⟩ := (HS5.out w1 hS1).1.c9
          go_simp
          refine ⟨⟨trivial, hS1, Below.refl _ _⟩, hK _ ?_⟩
          clear hK hD1 d0 d1 d2 d3 d4 d5 d6 d7 d8 hS1 K w1
          refine relSeq_on rfl (fun K hK w1 hS1 hD1 => ?_)
          obtain ⟨d0, d1, d2, d3, d4, d5, d6, d7, d8⟩ := (HS5.out w1 hS1).1.c9
          go_simp
          refine ⟨⟨trivial, hS1, Below.refl _ _⟩, hK _ ?_⟩
          clear hK hD1 d0 d1 d2 d3 d4 d5 d6 d7 d8 hS1 K w1
          refine relSeq_on rfl (fun K hK w1 hS1 hD1 => ?_)
          go_simp
          refine ⟨(D3.out w1).mono fun e w2 he => ⟨_, he.1, rfl, HSn.out _ _ hS1 he.2, he.2⟩, fun v hv => ?_⟩
          obtain ⟨_, _, hv⟩ := hv.out
          obtain rfl : v = .bool true := hv
          refine hK _ ?_
          clear hK hD1 hS1 K w1 hv
          refine relSeq_on rfl (fun K hK w1 hS1 hD1 => ?_)
          go_simp
          refine ⟨⟨trivial, hS1, Below.refl _ _⟩, hK _ ?_⟩
          clear hK hD1 hS1 K w1
          refine relSeq_nil ?_
          intro listed w9 hS2 hF2 hl2
          have HBW := Lib.hid (HSd.out w9 hS2)
          clear hF2 hl2 HSd HSn HS5 hS2
          go_wp2
          go_ret
          exact ⟨rfl, HB.out.trans (HBW.out.mono HB.out.size)⟩
        · have D1 : Hid (∀ W, Calls Try.prog 10 #[vec f, vec g] W (Ret (.bool true) W)) := fun W => by have := Covers_any f g W; rwa [hx] at this
          have D2 : Hid (∀ W, Calls Try.prog 10 #[vec g, vec f] W (Ret (.bool true) W)) := fun W => by have := Covers_any g f W; rwa [hy] at this
          clear hx hy
          unfold eqVec at hq
          obtain ⟨S, hS⟩ : ∃ S : World → Prop, S = fun Y => Below X.heap.size X Y := ⟨_, rfl⟩
          have HSd : Hid (∀ Y, S Y → Below X.heap.size X Y) := by intro Y hY; rw [hS] at hY; exact hY
          have HS5 : Hid (∀ Y, S Y → Five Y q0 q1 q2 b7 b9 f g h J M) := fun Y hY => H5.out.below (HSd.out Y hY)
          have HSn : Hid (∀ Y Y', S Y → Below Y.heap.size Y Y' → S Y') := by intro Y Y' hY hb; rw [hS] at hY ⊢; exact hY.trans (hb.mono hY.size)
          have hS0 : S X.drew := by rw [hS]; exact (Below.refl _ _).drew
          clear hS c0 c1 c2 c3 c4 c5 c6 c7 c8 d0 d1 d2 d3 d4 d5 d6 d7 d8 e0 e1 e2 e3 e4 e5 e6 e7 e8 i0 i1 i2 i3 i4 i5 i6 i7 i8 j0 j1 j2 j3 j4 j5 j6 j7 j8
          refine wp_region_held_rel 17 S (fun k u _ => match k with | 2 => u = .bool true | 6 => u = .bool true | 15 => u = .bool true | _ => True) rfl (by kernel_rfl) (by kernel_rfl) (by kernel_rfl) (fun _ _ _ _ _ h => h) hS0 ?_
          clear hS0
          simp only [List.take_succ_cons, List.take_zero, List.drop_succ_cons, List.drop_zero]
          refine relSeq_on rfl (fun K hK w1 hS1 hD1 => ?_)
          obtain ⟨d0, d1, d2, d3, d4, d5, d6, d7, d8⟩ := (HS5.out w1 hS1).1.c9
          go_simp
          refine ⟨⟨trivial, hS1, Below.refl _ _⟩, hK _ ?_⟩
          clear hK hD1 d0 d1 d2 d3 d4 d5 d6 d7 d8 hS1 K w1
          refine relSeq_on rfl (fun K hK w1 hS1 hD1 => ?_)
          obtain ⟨d0, d1, d2, d3, d4, d5, d6, d7, d8⟩ := (HS5.out w1 hS1).2.1.c9
          go_simp
          refine ⟨⟨trivial, hS1, Below.refl _ _⟩, hK _ ?_⟩
          clear hK hD1 d0 d1 d2 d3 d4 d5 d6 d7 d8 hS1 K w1
          refine relSeq_on rfl (fun K hK w1 hS1 hD1 => ?_)
          go_simp
          refine ⟨(D1.out w1).mono fun e w2 he => ⟨_, he.1, rfl, HSn.out _ _ hS1 he.2, he.2⟩, fun v hv => ?_⟩
          obtain ⟨_, _, hv⟩ := hv.out
          obtain rfl : v = .bool true := hv
          refine hK _ ?_
          clear hK hD1 hS1 K w1 hv
          refine relSeq_on rfl (fun K hK w1 hS1 hD1 => ?_)
          go_simp
          refine ⟨⟨trivial, hS1, Below.refl _ _⟩, hK _ ?_⟩
          clear hK hD1 hS1 K w1
          refine relSeq_on rfl (fun K hK w1 hS1 hD1 => ?_)
          obtain ⟨d0, d1, d2, d3, d4, d5, d6, d7, d8⟩ := (HS5.out w1 hS1).2.1.c9
          go_simp
          refine ⟨⟨trivial, hS1, Below.refl _ _⟩, hK _ ?_⟩
          clear hK hD1 d0 d1 d2 d3 d4 d5 d6 d7 d8 hS1 K w1
          refine relSeq_on rfl (fun K hK w1 hS1 hD1 => ?_)
          obtain ⟨d0, d1, d2, d3, d4, d5, d6, d7, d8⟩ := (HS5.out w1 hS1).1.c9
          go_simp
          refine ⟨⟨trivial, hS1, Below.refl _ _⟩, hK _ ?_⟩
          clear hK hD1 d0 d1 d2 d3 d4 d5 d6 d7 d8 hS1 K w1
          refine relSeq_on rfl (fun K hK w1 hS1 hD1 => ?_)
          go_simp
          refine ⟨(D2.out w1).mono fun e w2 he => ⟨_, he.1, rfl, HSn.out _ _ hS1 he.2, he.2⟩, fun v hv => ?_⟩
          obtain ⟨_, _, hv⟩ := hv.out
          obtain rfl : v = .bool true := hv
          refine hK _ ?_
          clear hK hD1 hS1 K w1 hv
          refine relSeq_on rfl (fun K hK w1 hS1 hD1 => ?_)
          go_simp
          refine ⟨⟨trivial, hS1, Below.refl _ _⟩, hK _ ?_⟩
          clear hK hD1 hS1 K w1
          refine relSeq_on rfl (fun K hK w1 hS1 hD1 => ?_)
          obtain ⟨d0, d1, d2, d3, d4, d5, d6, d7, d8⟩ := (HS5.out w1 hS1).1.c9
          go_simp
          refine ⟨⟨trivial, hS1, Below.refl _ _⟩, hK _ ?_⟩
          clear hK hD1 d0 d1 d2 d3 d4 d5 d6 d7 d8 hS1 K w1
          refine relSeq_on rfl (fun K hK w1 hS1 hD1 => ?_)
          obtain ⟨d0, d1, d2, d3, d4, d5, d6, d7, d8⟩ := (HS5.out w1 hS1).2.1.c9
          go_simp
          refine ⟨⟨trivial, hS1, Below.refl _ _⟩, hK _ ?_⟩
          clear hK hD1 d0 d1 d2 d3 d4 d5 d6 d7 d8 hS1 K w1
          refine relSeq_on rfl (fun K hK w1 hS1 hD1 => ?_)
          go_simp
          try rw [hq]
          refine ⟨⟨trivial, hS1, Below.refl _ _⟩, hK _ ?_⟩
          clear hK hD1 hS1 K w1
          refine relSeq_on rfl (fun K hK w1 hS1 hD1 => ?_)
          go_simp
          refine ⟨⟨trivial, hS1, Below.refl _ _⟩, hK _ ?_⟩
          clear hK hD1 hS1 K w1
          refine relSeq_on rfl (fun K hK w1 hS1 hD1 => ?_)
          go_simp
          refine ⟨⟨trivial, hS1, Below.refl _ _⟩, hK _ ?_⟩
          clear hK hD1 hS1 K w1
          refine relSeq_on rfl (fun K hK w1 hS1 hD1 => ?_)
          obtain ⟨d0, d1, d2, d3, d4, d5, d6, d7, d8⟩ := (HS5.out w1 hS1).1.c9
          go_simp
          refine ⟨⟨trivial, hS1, Below.refl _ _⟩, hK _ ?_⟩
          clear hK hD1 d0 d1 d2 d3 d4 d5 d6 d7 d8 hS1 K w1
          refine relSeq_on rfl (fun K hK w1 hS1 hD1 => ?_)
          obtain ⟨d0, d1, d2, d3, d4, d5, d6, d7, d8⟩ := (HS5.out w1 hS1).1.c9
          go_simp
          refine ⟨⟨trivial, hS1, Below.refl _ _⟩, hK _ ?_⟩
          clear hK hD1 d0 d1 d2 d3 d4 d5 d6 d7 d8 hS1 K w1
          refine relSeq_on rfl (fun K hK w1 hS1 hD1 => ?_)
          go_simp
          refine ⟨(D3.out w1).mono fun e w2 he => ⟨_, he.1, rfl, HSn.out _ _ hS1 he.2, he.2⟩, fun v hv => ?_⟩
          obtain ⟨_, _, hv⟩ := hv.out
          obtain rfl : v = .bool true := hv
          refine hK _ ?_
          clear hK hD1 hS1 K w1 hv
          refine relSeq_on rfl (fun K hK w1 hS1 hD1 => ?_)
          go_simp
          refine ⟨⟨trivial, hS1, Below.refl _ _⟩, hK _ ?_⟩
          clear hK hD1 hS1 K w1
          refine relSeq_nil ?_
          intro listed w9 hS2 hF2 hl2
          have HBW := Lib.hid (HSd.out w9 hS2)
          clear hF2 hl2 HSd HSn HS5 hS2
          go_wp2
          go_ret
          exact ⟨rfl, HB.out.trans (HBW.out.mono HB.out.size)⟩
  · go_wp2_with fail
    refine (Covers_any h g _).mono ?_
    rintro e X ⟨rfl, hb⟩
    replace H5 := Lib.hid (H5.out.below hb)
    replace HB := Lib.hid (HB.out.trans (hb.mono HB.out.size))
    clear hb c0 c1 c2 c3 c4 c5 c6 c7 c8 d0 d1 d2 d3 d4 d5 d6 d7 d8 e0 e1 e2 e3 e4 e5 e6 e7 e8 i0 i1 i2 i3 i4 i5 i6 i7 i8 j0 j1 j2 j3 j4 j5 j6 j7 j8
    obtain ⟨c0, c1, c2, c3, c4, c5, c6, c7, c8⟩ := H5.out.1.c9; obtain ⟨d0, d1, d2, d3, d4, d5, d6, d7, d8⟩ := H5.out.2.1.c9; obtain ⟨e0, e1, e2, e3, e4, e5, e6, e7, e8⟩ := H5.out.2.2.1.c9; obtain ⟨i0, i1, i2, i3, i4, i5, i6, i7, i8⟩ := H5.out.2.2.2.1.c9; obtain ⟨j0, j1, j2, j3, j4, j5, j6, j7, j8⟩ := H5.out.2.2.2.2.c9
    cases hy : covB h g
    · clear HJ hx
      go_wp2_with fail
      clear hy
      refine (Covers_any f h _).mono ?_
      rintro e X ⟨rfl, hb⟩
      replace H5 := Lib.hid (H5.out.below hb)
      replace HB := Lib.hid (HB.out.trans (hb.mono HB.out.size))
      clear hb c0 c1 c2 c3 c4 c5 c6 c7 c8 d0 d1 d2 d3 d4 d5 d6 d7 d8 e0 e1 e2 e3 e4 e5 e6 e7 e8 i0 i1 i2 i3 i4 i5 i6 i7 i8 j0 j1 j2 j3 j4 j5 j6 j7 j8
      obtain ⟨c0, c1, c2, c3, c4, c5, c6, c7, c8⟩ := H5.out.1.c9; obtain ⟨d0, d1, d2, d3, d4, d5, d6, d7, d8⟩ := H5.out.2.1.c9; obtain ⟨e0, e1, e2, e3, e4, e5, e6, e7, e8⟩ := H5.out.2.2.1.c9; obtain ⟨i0, i1, i2, i3, i4, i5, i6, i7, i8⟩ := H5.out.2.2.2.1.c9; obtain ⟨j0, j1, j2, j3, j4, j5, j6, j7, j8⟩ := H5.out.2.2.2.2.c9
      cases hu : covB f h
      · clear HM
        go_wp2_with fail
        clear hu
        rcases HXY.out with ⟨hx, hq⟩ | ⟨hx, hy, hq⟩ | ⟨hx, hy, hq⟩
        · have D1 : Hid (∀ W, Calls Try.prog 10 #[vec f, vec g] W (Ret (.bool false) W)) := fun W => by have := Covers_any f g W; rwa [hx] at this
          clear hx
          unfold eqVec at hq
          obtain ⟨S, hS⟩ : ∃ S : World → Prop, S = fun Y => Below X.heap.size X Y := ⟨_, rfl⟩
          have HSd : Hid (∀ Y, S Y → Below X.heap.size X Y) := by intro Y hY; rw [hS] at hY; exact hY
          have HS5 : Hid (∀ Y, S Y → Five Y q0 q1 q2 b7 b9 f g h J M) := fun Y hY => H5.out.below (HSd.out Y hY)
          have HSn : Hid (∀ Y Y', S Y → Below Y.heap.size Y Y' → S Y') := by intro Y Y' hY hb; rw [hS] at hY ⊢; exact hY.trans (hb.mono hY.size)
          have hS0 : S X.drew := by rw [hS]; exact (Below.refl _ _).drew
          clear hS c0 c1 c2 c3 c4 c5 c6 c7 c8 d0 d1 d2 d3 d4 d5 d6 d7 d8 e0 e1 e2 e3 e4 e5 e6 e7 e8 i0 i1 i2 i3 i4 i5 i6 i7 i8 j0 j1 j2 j3 j4 j5 j6 j7 j8
          refine wp_region_held_rel 17 S (fun k u _ => match k with | 2 => u = .bool false | 6 => True | 15 => u = .bool true | _ => True) rfl (by kernel_rfl) (by kernel_rfl) (by kernel_rfl) (fun _ _ _ _ _ h => h) hS0 ?_
          clear hS0
          simp only [List.take_succ_cons, List.take_zero, List.drop_succ_cons, List.drop_zero]
          refine relSeq_on rfl (fun K hK w1 hS1 hD1 => ?_)
          obtain ⟨d0, d1, d2, d3, d4, d5, d6, d7, d8⟩ := (HS5.out w1 hS1).1.c9
          go_simp
          refine ⟨⟨trivial, hS1, Below.refl _ _⟩, hK _ ?_⟩
          clear hK hD1 d0 d1 d2 d3 d4 d5 d6 d7 d8 hS1 K w1
          refine relSeq_on rfl (fun K hK w1 hS1 hD1 => ?_)
          obtain ⟨d0, d1, d2, d3, d4, d5, d6, d7, d8⟩ := (HS5.out w1 hS1).2.1.c9
          go_simp
          refine ⟨⟨trivial, hS1, Below.refl _ _⟩, hK _ ?_⟩
          clear hK hD1 d0 d1 d2 d3 d4 d5 d6 d7 d8 hS1 K w1
          refine relSeq_on rfl (fun K hK w1 hS1 hD1 => ?_)
          go_simp
          refine ⟨(D1.out w1).mono fun e w2 he => ⟨_, he.1, rfl, HSn.out _ _ hS1 he.2, he.2⟩, fun v hv => ?_⟩
          obtain ⟨_, _, hv⟩ := hv.out
          obtain rfl : v = .bool false := hv
          refine hK _ ?_
          clear hK hD1 hS1 K w1 hv
          refine relSeq_on rfl (fun K hK w1 hS1 hD1 => ?_)
          go_simp
          refine ⟨⟨trivial, hS1, Below.refl _ _⟩, hK _ ?_⟩
          clear hK hD1 hS1 K w1
          refine relSeq_off rfl (fun _ _ => trivial) (fun K hK => ?_)
          go_simp
          refine hK _ ?_
          clear hK K
          refine relSeq_off rfl (fun _ _ => trivial) (fun K hK => ?_)
          go_simp
          refine hK _ ?_
          clear hK K
          refine relSeq_off rfl (fun _ _ => trivial) (fun K hK => ?_)
          go_simp
          refine hK _ ?_
          clear hK K
          refine relSeq_on rfl (fun K hK w1 hS1 hD1 => ?_)
          go_simp
          refine ⟨⟨trivial, hS1, Below.refl _ _⟩, hK _ ?_⟩
          clear hK hD1 hS1 K w1
          refine relSeq_on rfl (fun K hK w1 hS1 hD1 => ?_)
          obtain ⟨d0, d1, d2, d3, d4, d5, d6, d7, d8⟩ := (HS5.out w1 hS1).1.c9
          go_simp
          refine ⟨⟨trivial, hS1, Below.refl _ _⟩, hK _ ?_⟩
          clear hK hD1 d0 d1 d2 d3 d4 d5 d6 d7 d8 hS1 K w1
          refine relSeq_on rfl (fun K hK w1 hS1 hD1 => ?_)
          obtain ⟨d0, d1, d2, d3, d4, d5, d6, d7, d8⟩ := (HS5.out w1 hS1).2.1.c9
          go_simp
          refine ⟨⟨trivial, hS1, Below.refl _ _⟩, hK _ ?_⟩
          clear hK hD1 d0 d1 d2 d3 d4 d5 d6 d7 d8 hS1 K w1
          refine relSeq_on rfl (fun K hK w1 hS1 hD1 => ?_)
          go_simp
          try rw [hq]
          refine ⟨⟨trivial, hS1, Below.refl _ _⟩, hK _ ?_⟩
          clear hK hD1 hS1 K w1
          refine relSeq_on rfl (fun K hK w1 hS1 hD1 => ?_)
          go_simp
          refine ⟨⟨trivial, hS1, Below.refl _ _⟩, hK _ ?_⟩
          clear hK hD1 hS1 K w1
          refine relSeq_on rfl (fun K hK w1 hS1 hD1 => ?_)
          go_simp
          refine ⟨⟨trivial, hS1, Below.refl _ _⟩, hK _ ?_⟩
          clear hK hD1 hS1 K w1
          refine relSeq_on rfl (fun K hK w1 hS1 hD1 => ?_)
          obtain ⟨d0, d1, d2, d3, d4, d5, d6, d7, d8⟩ := (HS5.out w1 hS1).1.c9
          go_simp
          refine ⟨⟨trivial, hS1, Below.refl _ _⟩, hK _ ?_⟩
          clear hK hD1 d0 d1 d2 d3 d4 d5 d6 d7 d8 hS1 K w1
          refine relSeq_on rfl (fun K hK w1 hS1 hD1 => ?_)
          obtain ⟨d0, d1, d2, d3, d4, d5, d6, d7, d8⟩ := (HS5.out w1 hS1).1.c9
          go_simp
          refine ⟨⟨trivial, hS1, Below.refl _ _⟩, hK _ ?_⟩
          clear hK hD1 d0 d1 d2 d3 d4 d5 d6 d7 d8 hS1 K w1
          refine relSeq_on rfl (fun K hK w1 hS1 hD1 => ?_)
          go_simp
          refine ⟨(D3.out w1).mono fun e w2 he => ⟨_, he.1, rfl, HSn.out _ _ hS1 he.2, he.2⟩, fun v hv => ?_⟩
          obtain ⟨_, _, hv⟩ := hv.out
          obtain rfl : v = .bool true := hv
          refine hK _ ?_
          clear hK hD1 hS1 K w1 hv
          refine relSeq_on rfl (fun K hK w1 hS1 hD1 => ?_)
          go_simp
          refine ⟨⟨trivial, hS1, Below.refl _ _⟩, hK _ ?_⟩
          clear hK hD1 hS1 K w1
          refine relSeq_nil ?_
          intro listed w9 hS2 hF2 hl2
          have HBW := Lib.hid (HSd.out w9 hS2)
          clear hF2 hl2 HSd HSn HS5 hS2
          go_wp2
          go_ret
          exact ⟨rfl, HB.out.trans (HBW.out.mono HB.out.size)⟩
        · have D1 : Hid (∀ W, Calls Try.prog 10 #[vec f, vec g] W (Ret (.bool true) W)) := fun W => by have := Covers_any f g W; rwa [hx] at this
          have D2 : Hid (∀ W, Calls Try.prog 10 #[vec g, vec f] W (Ret (.bool false) W)) := fun W => by have := Covers_any g f W; rwa [hy] at this
          clear hx hy
          unfold eqVec at hq
          obtain ⟨S, hS⟩ : ∃ S : World → Prop, S = fun Y => Below X.heap.size X Y := ⟨_, rfl⟩
          have HSd : Hid (∀ Y, S Y → Below X.heap.size X Y) := by intro Y hY; rw [hS] at hY; exact hY
          have HS5 : Hid (∀ Y, S Y → Five Y q0 q1 q2 b7 b9 f g h J M) := fun Y hY => H5.out.below (HSd.out Y hY)
          have HSn : Hid (∀ Y Y', S Y → Below Y.heap.size Y Y' → S Y') := by intro Y Y' hY hb; rw [hS] at hY ⊢; exact hY.trans (hb.mono hY.size)
          have hS0 : S X.drew := by rw [hS]; exact (Below.refl _ _).drew
          clear hS c0 c1 c2 c3 c4 c5 c6 c7 c8 d0 d1 d2 d3 d4 d5 d6 d7 d8 e0 e1 e2 e3 e4 e5 e6 e7 e8 i0 i1 i2 i3 i4 i5 i6 i7 i8 j0 j1 j2 j3 j4 j5 j6 j7 j8
          refine wp_region_held_rel 17 S (fun k u _ => match k with | 2 => u = .bool true | 6 => u = .bool false | 15 => u = .bool true | _ => True) rfl (by kernel_rfl) (by kernel_rfl) (by kernel_rfl) (fun _ _ _ _ _ h => h) hS0 ?_
          clear hS0
          simp only [List.take_succ_cons, List.take_zero, List.drop_succ_cons, List.drop_zero]
          refine relSeq_on rfl (fun K hK w1 hS1 hD1 => ?_)
          obtain ⟨d0, d1, d2, d3, d4, d5, d6, d7, d8⟩ := (HS5.out w1 hS1).1.c9
          go_simp
          refine ⟨⟨trivial, hS1, Below.refl _ _⟩, hK _ ?_⟩
          clear hK hD1 d0 d1 d2 d3 d4 d5 d6 d7 d8 hS1 K w1
          refine relSeq_on rfl (fun K hK w1 hS1 hD1 => ?_)
          obtain ⟨d0, d1, d2, d3, d4, d5, d6, d7, d8⟩ := (HS5.out w1 hS1).2.1.c9
          go_simp
          refine ⟨⟨trivial, hS1, Below.refl _ _⟩, hK _ ?_⟩
          clear hK hD1 d0 d1 d2 d3 d4 d5 d6 d7 d8 hS1 K w1
          refine relSeq_on rfl (fun K hK w1 hS1 hD1 => ?_)
          go_simp
          refine ⟨(D1.out w1).mono fun e w2 he => ⟨_, he.1, rfl, HSn.out _ _ hS1 he.2, he.2⟩, fun v hv => ?_⟩
          obtain ⟨_, _, hv⟩ := hv.out
          obtain rfl : v = .bool true := hv
          refine hK _ ?_
          clear hK hD1 hS1 K w1 hv
          refine relSeq_on rfl (fun K hK w1 hS1 hD1 => ?_)
          go_simp
          refine ⟨⟨trivial, hS1, Below.refl _ _⟩, hK _ ?_⟩
          clear hK hD1 hS1 K w1
          refine relSeq_on rfl (fun K hK w1 hS1 hD1 => ?_)
          obtain ⟨d0, d1, d2, d3, d4, d5, d6, d7, d8⟩ := (HS5.out w1 hS1).2.1.c9
          go_simp
          refine ⟨⟨trivial, hS1, Below.refl _ _⟩, hK _ ?_⟩
          clear hK hD1 d0 d1 d2 d3 d4 d5 d6 d7 d8 hS1 K w1
          refine relSeq_on rfl (fun K hK w1 hS1 hD1 => ?_)
          obtain ⟨d0, d1, d2, d3, d4, d5, d6, d7, d8⟩ := (HS5.out w1 hS1).1.c9
          go_simp
          refine ⟨⟨trivial, hS1, Below.refl _ _⟩, hK _ ?_⟩
          clear hK hD1 d0 d1 d2 d3 d4 d5 d6 d7 d8 hS1 K w1
          refine relSeq_on rfl (fun K hK w1 hS1 hD1 => ?_)
          go_simp
          refine ⟨(D2.out w1).mono fun e w2 he => ⟨_, he.1, rfl, HSn.out _ _ hS1 he.2, he.2⟩, fun v hv => ?_⟩
          obtain ⟨_, _, hv⟩ := hv.out
          obtain rfl : v = .bool false := hv
          refine hK _ ?_
          clear hK hD1 hS1 K w1 hv
          refine relSeq_on rfl (fun K hK w1 hS1 hD1 => ?_)
          go_simp
          refine ⟨⟨trivial, hS1, Below.refl _ _⟩, hK _ ?_⟩
          clear hK hD1 hS1 K w1
          refine relSeq_on rfl (fun K hK w1 hS1 hD1 => ?_)
          obtain ⟨d0, d1, d2, d3, d4, d5, d6, d7, d8⟩ := (HS5.out w1 hS1).1.c9
          go_simp
          refine ⟨⟨trivial, hS1, Below.refl _ _⟩, hK _ ?_⟩
          clear hK hD1 d0 d1 d2 d3 d4 d5 d6 d7 d8 hS1 K w1
          refine relSeq_on rfl (fun K hK w1 hS1 hD1 => ?_)
          obtain ⟨d0, d1, d2, d3, d4, d5, d6, d7, d8⟩ := (HS5.out w1 hS1).2.1.c9
          go_simp
          refine ⟨⟨trivial, hS1, Below.refl _ _⟩, hK _ ?_⟩
          clear hK hD1 d0 d1 d2 d3 d4 d5 d6 d7 d8 hS1 K w1
          refine relSeq_on rfl (fun K hK w1 hS1 hD1 => ?_)
          go_simp
          try rw [hq]
          refine ⟨⟨trivial, hS1, Below.refl _ _⟩, hK _ ?_⟩
          clear hK hD1 hS1 K w1
          refine relSeq_on rfl (fun K hK w1 hS1 hD1 => ?_)
          go_simp
          refine ⟨⟨trivial, hS1, Below.refl _ _⟩, hK _ ?_⟩
          clear hK hD1 hS1 K w1
          refine relSeq_on rfl (fun K hK w1 hS1 hD1 => ?_)
          go_simp
          refine ⟨⟨trivial, hS1, Below.refl _ _⟩, hK _ ?_⟩
          clear hK hD1 hS1 K w1
          refine relSeq_on rfl (fun K hK w1 hS1 hD1 => ?_)
          obtain ⟨d0, d1, d2, d3, d4, d5, d6, d7, d8⟩ := (HS5.out w1 hS1).1.c9
          go_simp
          refine ⟨⟨trivial, hS1, Below.refl _ _⟩, hK _ ?_⟩
          clear hK hD1 d0 d1 d2 d3 d4 d5 d6 d7 d8 hS1 K w1
          refine relSeq_on rfl (fun K hK w1 hS1 hD1 => ?_)
          obtain ⟨d0, d1, d2, d3, d4, d5, d6, d7, d8⟩ := (HS5.out w1 hS1).1.c9
          go_simp
          refine ⟨⟨trivial, hS1, Below.refl _ _⟩, hK _ ?_⟩
          clear hK hD1 d0 d1 d2 d3 d4 d5 d6 d7 d8 hS1 K w1
          refine relSeq_on rfl (fun K hK w1 hS1 hD1 => ?_)
          go_simp
          refine ⟨(D3.out w1).mono fun e w2 he => ⟨_, he.1, rfl, HSn.out _ _ hS1 he.2, he.2⟩, fun v hv => ?_⟩
          obtain ⟨_, _, hv⟩ := hv.out
          obtain rfl : v = .bool true := hv
          refine hK _ ?_
          clear hK hD1 hS1 K w1 hv
          refine relSeq_on rfl (fun K hK w1 hS1 hD1 => ?_)
          go_simp
          refine ⟨⟨trivial, hS1, Below.refl _ _⟩, hK _ ?_⟩
          clear hK hD1 hS1 K w1
          refine relSeq_nil ?_
          intro listed w9 hS2 hF2 hl2
          have HBW := Lib.hid (HSd.out w9 hS2)
          clear hF2 hl2 HSd HSn HS5 hS2
          go_wp2
          go_ret
          exact ⟨rfl, HB.out.trans (HBW.out.mono HB.out.size)⟩
        · have D1 : Hid (∀ W, Calls Try.prog 10 #[vec f, vec g] W (Ret (.bool true) W)) := fun W => by have := Covers_any f g W; rwa [hx] at this
          have D2 : Hid (∀ W, Calls Try.prog 10 #[vec g, vec f] W (Ret (.bool true) W)) := fun W => by have := Covers_any g f W; rwa [hy] at this
          clear hx hy
          unfold eqVec at hq
          obtain ⟨S, hS⟩ : ∃ S : World → Prop, S = fun Y => Below X.heap.size X Y := ⟨_, rfl⟩
          have HSd : Hid (∀ Y, S Y → Below X.heap.size X Y) := by intro Y hY; rw [hS] at hY; exact hY
          have HS5 : Hid (∀ Y, S Y → Five Y q0 q1 q2 b7 b9 f g h J M) := fun Y hY => H5.out.below (HSd.out Y hY)
          have HSn : Hid (∀ Y Y', S Y → Below Y.heap.size Y Y' → S Y') := by intro Y Y' hY hb; rw [hS] at hY ⊢; exact hY.trans (hb.mono hY.size)
          have hS0 : S X.drew := by rw [hS]; exact (Below.refl _ _).drew
          clear hS c0 c1 c2 c3 c4 c5 c6 c7 c8 d0 d1 d2 d3 d4 d5 d6 d7 d8 e0 e1 e2 e3 e4 e5 e6 e7 e8 i0 i1 i2 i3 i4 i5 i6 i7 i8 j0 j1 j2 j3 j4 j5 j6 j7 j8
          refine wp_region_held_rel 17 S (fun k u _ => match k with | 2 => u = .bool true | 6 => u = .bool true | 15 => u = .bool true | _ => True) rfl (by kernel_rfl) (by kernel_rfl) (by kernel_rfl) (fun _ _ _ _ _ h => h) hS0 ?_
          clear hS0
          simp only [List.take_succ_cons, List.take_zero, List.drop_succ_cons, List.drop_zero]
          refine relSeq_on rfl (fun K hK w1 hS1 hD1 => ?_)
          obtain ⟨d0, d1, d2, d3, d4, d5, d6, d7, d8⟩ := (HS5.out w1 hS1).1.c9
          go_simp
          refine ⟨⟨trivial, hS1, Below.refl _ _⟩, hK _ ?_⟩
          clear hK hD1 d0 d1 d2 d3 d4 d5 d6 d7 d8 hS1 K w1
          refine relSeq_on rfl (fun K hK w1 hS1 hD1 => ?_)
          obtain ⟨d0, d1, d2, d3, d4, d5, d6, d7, d8⟩ := (HS5.out w1 hS1).2.1.c9
          go_simp
          refine ⟨⟨trivial, hS1, Below.refl _ _⟩, hK _ ?_⟩
          clear hK hD1 d0 d1 d2 d3 d4 d5 d6 d7 d8 hS1 K w1
          refine relSeq_on rfl (fun K hK w1 hS1 hD1 => ?_)
          go_simp
          refine ⟨(D1.out w1).mono fun e w2 he => ⟨_, he.1, rfl, HSn.out _ _ hS1 he.2, he.2⟩, fun v hv => ?_⟩
          obtain ⟨_, _, hv⟩ := hv.out
          obtain rfl : v = .bool true := hv
          refine hK _ ?_
          clear hK hD1 hS1 K w1 hv
          refine relSeq_on rfl (fun K hK w1 hS1 hD1 => ?_)
          go_simp
          refine ⟨⟨trivial, hS1, Below.refl _ _⟩, hK _ ?_⟩
          clear hK hD1 hS1 K w1
          refine relSeq_on rfl (fun K hK w1 hS1 hD1 => ?_)
          obtain ⟨d0, d1, d2, d3, d4, d5, d6, d7, d8⟩ := (HS5.out w1 hS1).2.1.c9
          go_simp
          refine ⟨⟨trivial, hS1, Below.refl _ _⟩, hK _ ?_⟩
          clear hK hD1 d0 d1 d2 d3 d4 d5 d6 d7 d8 hS1 K w1
          refine relSeq_on rfl (fun K hK w1 hS1 hD1 => ?_)
          obtain ⟨d0, d1, d2, d3, d4, d5, d6, d7, d8⟩ := (HS5.out w1 hS1).1.c9
          go_simp
          refine ⟨⟨trivial, hS1, Below.refl _ _⟩, hK _ ?_⟩
          clear hK hD1 d0 d1 d2 d3 d4 d5 d6 d7 d8 hS1 K w1
          refine relSeq_on rfl (fun K hK w1 hS1 hD1 => ?_)
          go_simp
          refine ⟨(D2.out w1).mono fun e w2 he => ⟨_, he.1, rfl, HSn.out _ _ hS1 he.2, he.2⟩, fun v hv => ?_⟩
          obtain ⟨_, _, hv⟩ := hv.out
          obtain rfl : v = .bool true := hv
          refine hK _ ?_
          clear hK hD1 hS1 K w1 hv
          refine relSeq_on rfl (fun K hK w1 hS1 hD1 => ?_)
          go_simp
          refine ⟨⟨trivial, hS1, Below.refl _ _⟩, hK _ ?_⟩
          clear hK hD1 hS1 K w1
          refine relSeq_on rfl (fun K hK w1 hS1 hD1 => ?_)
          obtain ⟨d0, d1, d2, d3, d4, d5, d6, d7, d8⟩ := (HS5.out w1 hS1).1.c9
          go_simp
          refine ⟨⟨trivial, hS1, Below.refl _ _⟩, hK _ ?_⟩
          clear hK hD1 d0 d1 d2 d3 d4 d5 d6 d7 d8 hS1 K w1
          refine relSeq_on rfl (fun K hK w1 hS1 hD1 => ?_)
          obtain ⟨d0, d1, d2, d3, d4, d5, d6, d7, d8⟩ := (HS5.out w1 hS1).2.1.c9
          go_simp
          refine ⟨⟨trivial, hS1, Below.refl _ _⟩, hK _ ?_⟩
          clear hK hD1 d0 d1 d2 d3 d4 d5 d6 d7 d8 hS1 K w1
          refine relSeq_on rfl (fun K hK w1 hS1 hD1 => ?_)
          go_simp
          try rw [hq]
          refine ⟨⟨trivial, hS1, Below.refl _ _⟩, hK _ ?_⟩
          clear hK hD1 hS1 K w1
          refine relSeq_on rfl (fun K hK w1 hS1 hD1 => ?_)
          go_simp
          refine ⟨⟨trivial, hS1, Below.refl _ _⟩, hK _ ?_⟩
          clear hK hD1 hS1 K w1
          refine relSeq_on rfl (fun K hK w1 hS1 hD1 => ?_)
          go_simp
          refine ⟨⟨trivial, hS1, Below.refl _ _⟩, hK _ ?_⟩
          clear hK hD1 hS1 K w1
          refine relSeq_on rfl (fun K hK w1 hS1 hD1 => ?_)
          obtain ⟨d0, d1, d2, d3, d4, d5, d6, d7, d8⟩ := (HS5.out w1 hS1).1.c9
          go_simp
          refine ⟨⟨trivial, hS1, Below.refl _ _⟩, hK _ ?_⟩
          clear hK hD1 d0 d1 d2 d3 d4 d5 d6 d7 d8 hS1 K w1
          refine relSeq_on rfl (fun K hK w1 hS1 hD1 => ?_)
          obtain ⟨d0, d1, d2, d3, d4, d5, d6, d7, d8⟩ := (HS5.out w1 hS1).1.c9
          go_simp
          refine ⟨⟨trivial, hS1, Below.refl _ _⟩, hK _ ?_⟩
          clear hK hD1 d0 d1 d2 d3 d4 d5 d6 d7 d8 hS1 K w1
          refine relSeq_on rfl (fun K hK w1 hS1 hD1 => ?_)
          go_simp
          refine ⟨(D3.out w1).mono fun e w2 he => ⟨_, he.1, rfl, HSn.out _ _ hS1 he.2, he.2⟩, fun v hv => ?_⟩
          obtain ⟨_, _, hv⟩ := hv.out
          obtain rfl : v = .bool true := hv
          refine hK _ ?_
          clear hK hD1 hS1 K w1 hv
          refine relSeq_on rfl (fun K hK w1 hS1 hD1 => ?_)
          go_simp
          refine ⟨⟨trivial, hS1, Below.refl _ _⟩, hK _ ?_⟩
          clear hK hD1 hS1 K w1
          refine relSeq_nil ?_
          intro listed w9 hS2 hF2 hl2
          have HBW := Lib.hid (HSd.out w9 hS2)
          clear hF2 hl2 HSd HSn HS5 hS2
          go_wp2
          go_ret
          exact ⟨rfl, HB.out.trans (HBW.out.mono HB.out.size)⟩
      · go_wp2_with fail
        refine (Covers_any g h _).mono ?_
        rintro e X ⟨rfl, hb⟩
        replace H5 := Lib.hid (H5.out.below hb)
        replace HB := Lib.hid (HB.out.trans (hb.mono HB.out.size))
        clear hb c0 c1 c2 c3 c4 c5 c6 c7 c8 d0 d1 d2 d3 d4 d5 d6 d7 d8 e0 e1 e2 e3 e4 e5 e6 e7 e8 i0 i1 i2 i3 i4 i5 i6 i7 i8 j0 j1 j2 j3 j4 j5 j6 j7 j8
        obtain ⟨c0, c1, c2, c3, c4, c5, c6, c7, c8⟩ := H5.out.1.c9; obtain ⟨d0, d1, d2, d3, d4, d5, d6, d7, d8⟩ := H5.out.2.1.c9; obtain ⟨e0, e1, e2, e3, e4, e5, e6, e7, e8⟩ := H5.out.2.2.1.c9; obtain ⟨i0, i1, i2, i3, i4, i5, i6, i7, i8⟩ := H5.out.2.2.2.1.c9; obtain ⟨j0, j1, j2, j3, j4, j5, j6, j7, j8⟩ := H5.out.2.2.2.2.c9
        cases hv : covB g h
        · clear HM hu
          go_wp2_with fail
          clear hv
          rcases HXY.out with ⟨hx, hq⟩ | ⟨hx, hy, hq⟩ | ⟨hx, hy, hq⟩
          · have D1 : Hid (∀ W, Calls Try.prog 10 #[vec f, vec g] W (Ret (.bool false) W)) := fun W => by have := Covers_any f g W; rwa [hx] at this
            clear hx
            unfold eqVec at hq
            obtain ⟨S, hS⟩ : ∃ S : World → Prop, S = fun Y => Below X.heap.size X Y := ⟨_, rfl⟩
            have HSd : Hid (∀ Y, S Y → Below X.heap.size X Y) := by intro Y hY; rw [hS] at hY; exact hY
            have HS5 : Hid (∀ Y, S Y → Five Y q0 q1 q2 b7 b9 f g h J M) := fun Y hY => H5.out.below (HSd.out Y hY)
            have HSn : Hid (∀ Y Y', S Y → Below Y.heap.size Y Y' → S Y') := by intro Y Y' hY hb; rw [hS] at hY ⊢; exact hY.trans (hb.mono hY.size)
            have hS0 : S X.drew := by rw [hS]; exact (Below.refl _ _).drew
            clear hS c0 c1 c2 c3 c4 c5 c6 c7 c8 d0 d1 d2 d3 d4 d5 d6 d7 d8 e0 e1 e2 e3 e4 e5 e6 e7 e8 i0 i1 i2 i3 i4 i5 i6 i7 i8 j0 j1 j2 j3 j4 j5 j6 j7 j8
            refine wp_region_held_rel 17 S (fun k u _ => match k with | 2 => u = .bool false | 6 => True | 15 => u = .bool true | _ => True) rfl (by kernel_rfl) (by kernel_rfl) (by kernel_rfl) (fun _ _ _ _ _ h => h) hS0 ?_
            clear hS0
            simp only [List.take_succ_cons, List.take_zero, List.drop_succ_cons, List.drop_zero]
            refine relSeq_on rfl (fun K hK w1 hS1 hD1 => ?_)
            obtain ⟨d0, d1, d2, d3, d4, d5, d6, d7, d8⟩ := (HS5.out w1 hS1).1.c9
            go_simp
            refine ⟨⟨trivial, hS1, Below.refl _ _⟩, hK _ ?_⟩
            clear hK hD1 d0 d1 d2 d3 d4 d5 d6 d7 d8 hS1 K w1
            refine relSeq_on rfl (fun K hK w1 hS1 hD1 => ?_)
            obtain ⟨d0, d1, d2, d3, d4, d5, d6, d7, d8⟩ := (HS5.out w1 hS1).2.1.c9
            go_simp
            refine ⟨⟨trivial, hS1, Below.refl _ _⟩, hK _ ?_⟩
            clear hK hD1 d0 d1 d2 d3 d4 d5 d6 d7 d8 hS1 K w1
            refine relSeq_on rfl (fun K hK w1 hS1 hD1 => ?_)
            go_simp
            refine ⟨(D1.out w1).mono fun e w2 he => ⟨_, he.1, rfl, HSn.out _ _ hS1 he.2, he.2⟩, fun v hv => ?_⟩
            obtain ⟨_, _, hv⟩ := hv.out
            obtain rfl : v = .bool false := hv
            refine hK _ ?_
            clear hK hD1 hS1 K w1 hv
            refine relSeq_on rfl (fun K hK w1 hS1 hD1 => ?_)
            go_simp
            refine ⟨⟨trivial, hS1, Below.refl _ _⟩, hK _ ?_⟩
            clear hK hD1 hS1 K w1
            refine relSeq_off rfl (fun _ _ => trivial) (fun K hK => ?_)
            go_simp
            refine hK _ ?_
            clear hK K
            refine relSeq_off rfl (fun _ _ => trivial) (fun K hK => ?_)
            go_simp
            refine hK _ ?_
            clear hK K
            refine relSeq_off rfl (fun _ _ => trivial) (fun K hK => ?_)
            go_simp
            refine hK _ ?_
            clear hK K
            refine relSeq_on rfl (fun K hK w1 hS1 hD1 => ?_)
            go_simp
            refine ⟨⟨trivial, hS1, Below.refl _ _⟩, hK _ ?_⟩
            clear hK hD1 hS1 K w1
            refine relSeq_on rfl (fun K hK w1 hS1 hD1 => ?_)
            obtain ⟨d0, d1, d2, d3, d4, d5, d6, d7, d8⟩ := (HS5.out w1 hS1).1.c9
            go_simp
            refine ⟨⟨trivial, hS1, Below.refl _ _⟩, hK _ ?_⟩
            clear hK hD1 d0 d1 d2 d3 d4 d5 d6 d7 d8 hS1 K w1
            refine relSeq_on rfl (fun K hK w1 hS1 hD1 => ?_)
            obtain ⟨d0, d1, d2, d3, d4, d5, d6, d7, d8⟩ := (HS5.out w1 hS1).2.1.c9
            go_simp
            refine ⟨⟨trivial, hS1, Below.refl _ _⟩, hK _ ?_⟩
            clear hK hD1 d0 d1 d2 d3 d4 d5 d6 d7 d8 hS1 K w1
            refine relSeq_on rfl (fun K hK w1 hS1 hD1 => ?_)
            go_simp
            try rw [hq]
            refine ⟨⟨trivial, hS1, Below.refl _ _⟩, hK _ ?_⟩
            clear hK hD1 hS1 K w1
            refine relSeq_on rfl (fun K hK w1 hS1 hD1 => ?_)
            go_simp
            refine ⟨⟨trivial, hS1, Below.refl _ _⟩, hK _ ?_⟩
            clear hK hD1 hS1 K w1
            refine relSeq_on rfl (fun K hK w1 hS1 hD1 => ?_)
            go_simp
            refine ⟨⟨trivial, hS1, Below.refl _ _⟩, hK _ ?_⟩
            clear hK hD1 hS1 K w1
            refine relSeq_on rfl (fun K hK w1 hS1 hD1 => ?_)
            obtain ⟨d0, d1, d2, d3, d4, d5, d6, d7, d8⟩ := (HS5.out w1 hS1).1.c9
            go_simp
            refine ⟨⟨trivial, hS1, Below.refl _ _⟩, hK _ ?_⟩
            clear hK hD1 d0 d1 d2 d3 d4 d5 d6 d7 d8 hS1 K w1
            refine relSeq_on rfl (fun K hK w1 hS1 hD1 => ?_)
            obtain ⟨d0, d1, d2, d3, d4, d5, d6, d7, d8⟩ := (HS5.out w1 hS1).1.c9
            go_simp
            refine ⟨⟨trivial, hS1, Below.refl _ _⟩, hK _ ?_⟩
            clear hK hD1 d0 d1 d2 d3 d4 d5 d6 d7 d8 hS1 K w1
            refine relSeq_on rfl (fun K hK w1 hS1 hD1 => ?_)
            go_simp
            refine ⟨(D3.out w1).mono fun e w2 he => ⟨_, he.1, rfl, HSn.out _ _ hS1 he.2, he.2⟩, fun v hv => ?_⟩
            obtain ⟨_, _, hv⟩ := hv.out
            obtain rfl : v = .bool true := hv
            refine hK _ ?_
            clear hK hD1 hS1 K w1 hv
            refine relSeq_on rfl (fun K hK w1 hS1 hD1 => ?_)
            go_simp
            refine ⟨⟨trivial, hS1, Below.refl _ _⟩, hK _ ?_⟩
            clear hK hD1 hS1 K w1
            refine relSeq_nil ?_
            intro listed w9 hS2 hF2 hl2
            have HBW := Lib.hid (HSd.out w9 hS2)
            clear hF2 hl2 HSd HSn HS5 hS2
            go_wp2
            go_ret
            exact ⟨rfl, HB.out.trans (HBW.out.mono HB.out.size)⟩
          · have D1 : Hid (∀ W, Calls Try.prog 10 #[vec f, vec g] W (Ret (.bool true) W)) := fun W => by have := Covers_any f g W; rwa [hx] at this
            have D2 : Hid (∀ W, Calls Try.prog 10 #[vec g, vec f] W (Ret (.bool false) W)) := fun W => by have := Covers_any g f W; rwa [hy] at this
            clear hx hy
            unfold eqVec at hq
            obtain ⟨S, hS⟩ : ∃ S : World → Prop, S = fun Y => Below X.heap.size X Y := ⟨_, rfl⟩
            have HSd : Hid (∀ Y, S Y → Below X.heap.size X Y) := by intro Y hY; rw [hS] at hY; exact hY
            have HS5 : Hid (∀ Y, S Y → Five Y q0 q1 q2 b7 b9 f g h J M) := fun Y hY => H5.out.below (HSd.out Y hY)
            have HSn : Hid (∀ Y Y', S Y → Below Y.heap.size Y Y' → S Y') := by intro Y Y' hY hb; rw [hS] at hY ⊢; exact hY.trans (hb.mono hY.size)
            have hS0 : S X.drew := by rw [hS]; exact (Below.refl _ _).drew
            clear hS c0 c1 c2 c3 c4 c5 c6 c7 c8 d0 d1 d2 d3 d4 d5 d6 d7 d8 e0 e1 e2 e3 e4 e5 e6 e7 e8 i0 i1 i2 i3 i4 i5 i6 i7 i8 j0 j1 j2 j3 j4 j5 j6 j7 j8
            refine wp_region_held_rel 17 S (fun k u _ => match k with | 2 => u = .bool true | 6 => u = .bool false | 15 => u = .bool true | _ => True) rfl (by kernel_rfl) (by kernel_rfl) (by kernel_rfl) (fun _ _ _ _ _ h => h) hS0 ?_
            clear hS0
            simp only [List.take_succ_cons, List.take_zero, List.drop_succ_cons, List.drop_zero]
            refine relSeq_on rfl (fun K hK w1 hS1 hD1 => ?_)
            obtain ⟨d0, d1, d2, d3, d4, d5, d6, d7, d8⟩ := (HS5.out w1 hS1).1.c9
            go_simp
            refine ⟨⟨trivial, hS1, Below.refl _ _⟩, hK _ ?_⟩
            clear hK hD1 d0 d1 d2 d3 d4 d5 d6 d7 d8 hS1 K w1
            refine relSeq_on rfl (fun K hK w1 hS1 hD1 => ?_)
            obtain ⟨d0, d1, d2, d3, d4, d5, d6, d7, d8⟩ := (HS5.out w1 hS1).2.1.c9
            go_simp
            refine ⟨⟨trivial, hS1, Below.refl _ _⟩, hK _ ?_⟩
            clear hK hD1 d0 d1 d2 d3 d4 d5 d6 d7 d8 hS1 K w1
            refine relSeq_on rfl (fun K hK w1 hS1 hD1 => ?_)
            go_simp
            refine ⟨(D1.out w1).mono fun e w2 he => ⟨_, he.1, rfl, HSn.out _ _ hS1 he.2, he.2⟩, fun v hv => ?_⟩
            obtain ⟨_, _, hv⟩ := hv.out
            obtain rfl : v = .bool true := hv
            refine hK _ ?_
            clear hK hD1 hS1 K w1 hv
            refine relSeq_on rfl (fun K hK w1 hS1 hD1 => ?_)
            go_simp
            refine ⟨⟨trivial, hS1, Below.refl _ _⟩, hK _ ?_⟩
            clear hK hD1 hS1 K w1
            refine relSeq_on rfl (fun K hK w1 hS1 hD1 => ?_)
            obtain ⟨d0, d1, d2, d3, d4, d5, d6, d7, d8⟩ := (HS5.out w1 hS1).2.1.c9
            go_simp
            refine ⟨⟨trivial, hS1, Below.refl _ _⟩, hK _ ?_⟩
            clear hK hD1 d0 d1 d2 d3 d4 d5 d6 d7 d8 hS1 K w1
            refine relSeq_on rfl (fun K hK w1 hS1 hD1 => ?_)
            obtain ⟨d0, d1, d2, d3, d4, d5, d6, d7, d8⟩ := (HS5.out w1 hS1).1.c9
            go_simp
            refine ⟨⟨trivial, hS1, Below.refl _ _⟩, hK _ ?_⟩
            clear hK hD1 d0 d1 d2 d3 d4 d5 d6 d7 d8 hS1 K w1
            refine relSeq_on rfl (fun K hK w1 hS1 hD1 => ?_)
            go_simp
            refine ⟨(D2.out w1).mono fun e w2 he => ⟨_, he.1, rfl, HSn.out _ _ hS1 he.2, he.2⟩, fun v hv => ?_⟩
            obtain ⟨_, _, hv⟩ := hv.out
            obtain rfl : v = .bool false := hv
            refine hK _ ?_
            clear hK hD1 hS1 K w1 hv
            refine relSeq_on rfl (fun K hK w1 hS1 hD1 => ?_)
            go_simp
            refine ⟨⟨trivial, hS1, Below.refl _ _⟩, hK _ ?_⟩
            clear hK hD1 hS1 K w1
            refine relSeq_on rfl (fun K hK w1 hS1 hD1 => ?_)
            obtain ⟨d0, d1, d2, d3, d4, d5, d6, d7, d8⟩ := (HS5.out w1 hS1).1.c9
            go_simp
            refine ⟨⟨trivial, hS1, Below.refl _ _⟩, hK _ ?_⟩
            clear hK hD1 d0 d1 d2 d3 d4 d5 d6 d7 d8 hS1 K w1
            refine relSeq_on rfl (fun K hK w1 hS1 hD1 => ?_)
            obtain ⟨d0, d1, d2, d3, d4, d5, d6, d7, d8⟩ := (HS5.out w1 hS1).2.1.c9
            go_simp
            refine ⟨⟨trivial, hS1, Below.refl _ _⟩, hK _ ?_⟩
            clear hK hD1 d0 d1 d2 d3 d4 d5 d6 d7 d8 hS1 K w1
            refine relSeq_on rfl (fun K hK w1 hS1 hD1 => ?_)
            go_simp
            try rw [hq]
            refine ⟨⟨trivial, hS1, Below.refl _ _⟩, hK _ ?_⟩
            clear hK hD1 hS1 K w1
            refine relSeq_on rfl (fun K hK w1 hS1 hD1 => ?_)
            go_simp
            refine ⟨⟨trivial, hS1, Below.refl _ _⟩, hK _ ?_⟩
            clear hK hD1 hS1 K w1
            refine relSeq_on rfl (fun K hK w1 hS1 hD1 => ?_)
            go_simp
            refine ⟨⟨trivial, hS1, Below.refl _ _⟩, hK _ ?_⟩
            clear hK hD1 hS1 K w1
            refine relSeq_on rfl (fun K hK w1 hS1 hD1 => ?_)
            obtain ⟨d0, d1, d2, d3, d4, d5, d6, d7, d8⟩ := (HS5.out w1 hS1).1.c9
            go_simp
            refine ⟨⟨trivial, hS1, Below.refl _ _⟩, hK _ ?_⟩
            clear hK hD1 d0 d1 d2 d3 d4 d5 d6 d7 d8 hS1 K w1
            refine relSeq_on rfl (fun K hK w1 hS1 hD1 => ?_)
            obtain ⟨d0, d1, d2, d3, d4, d5, d6, d7, d8⟩ := (HS5.out w1 hS1).1.c9
            go_simp
            refine ⟨⟨trivial, hS1, Below.refl _ _⟩, hK _ ?_⟩
            clear hK hD1 d0 d1 d2 d3 d4 d5 d6 d7 d8 hS1 K w1
            refine relSeq_on rfl (fun K hK w1 hS1 hD1 => ?_)
            go_simp
            refine ⟨(D3.out w1).mono fun e w2 he => ⟨_, he.1, rfl, HSn.out _ _ hS1 he.2, he.2⟩, fun v hv => ?_⟩
            obtain ⟨_, _, hv⟩ := hv.out
            obtain rfl : v = .bool true := hv
            refine hK _ ?_
            clear hK hD1 hS1 K w1 hv
            refine relSeq_on rfl (fun K hK w1 hS1 hD1 => ?_)
            go_simp
            refine ⟨⟨trivial, hS1, Below.refl _ _⟩, hK _ ?_⟩
            clear hK hD1 hS1 K w1
            refine relSeq_nil ?_
            intro listed w9 hS2 hF2 hl2
            have HBW := Lib.hid (HSd.out w9 hS2)
            clear hF2 hl2 HSd HSn HS5 hS2
            go_wp2
            go_ret
            exact ⟨rfl, HB.out.trans (HBW.out.mono HB.out.size)⟩
          · have D1 : Hid (∀ W, Calls Try.prog 10 #[vec f, vec g] W (Ret (.bool true) W)) := fun W => by have := Covers_any f g W; rwa [hx] at this
            have D2 : Hid (∀ W, Calls Try.prog 10 #[vec g, vec f] W (Ret (.bool true) W)) := fun W => by have := Covers_any g f W; rwa [hy] at this
            clear hx hy
            unfold eqVec at hq
            obtain ⟨S, hS⟩ : ∃ S : World → Prop, S = fun Y => Below X.heap.size X Y := ⟨_, rfl⟩
            have HSd : Hid (∀ Y, S Y → Below X.heap.size X Y) := by intro Y hY; rw [hS] at hY; exact hY
            have HS5 : Hid (∀ Y, S Y → Five Y q0 q1 q2 b7 b9 f g h J M) := fun Y hY => H5.out.below (HSd.out Y hY)
            have HSn : Hid (∀ Y Y', S Y → Below Y.heap.size Y Y' → S Y') := by intro Y Y' hY hb; rw [hS] at hY ⊢; exact hY.trans (hb.mono hY.size)
            have hS0 : S X.drew := by rw [hS]; exact (Below.refl _ _).drew
            clear hS c0 c1 c2 c3 c4 c5 c6 c7 c8 d0 d1 d2 d3 d4 d5 d6 d7 d8 e0 e1 e2 e3 e4 e5 e6 e7 e8 i0 i1 i2 i3 i4 i5 i6 i7 i8 j0 j1 j2 j3 j4 j5 j6 j7 j8
            refine wp_region_held_rel 17 S (fun k u _ => match k with | 2 => u = .bool true | 6 => u = .bool true | 15 => u = .bool true | _ => True) rfl (by kernel_rfl) (by kernel_rfl) (by kernel_rfl) (fun _ _ _ _ _ h => h) hS0 ?_
            clear hS0
            simp only [List.take_succ_cons, List.take_zero, List.drop_succ_cons, List.drop_zero]
            refine relSeq_on rfl (fun K hK w1 hS1 hD1 => ?_)
            obtain ⟨d0, d1, d2, d3, d4, d5, d6, d7, d8⟩ := (HS5.out w1 hS1).1.c9
            go_simp
            refine ⟨⟨trivial, hS1, Below.refl _ _⟩, hK _ ?_⟩
            clear hK hD1 d0 d1 d2 d3 d4 d5 d6 d7 d8 hS1 K w1
            refine relSeq_on rfl (fun K hK w1 hS1 hD1 => ?_)
            obtain ⟨d0, d1, d2, d3, d4, d5, d6, d7, d8⟩ := (HS5.out w1 hS1).2.1.c9
            go_simp
            refine ⟨⟨trivial, hS1, Below.refl _ _⟩, hK _ ?_⟩
            clear hK hD1 d0 d1 d2 d3 d4 d5 d6 d7 d8 hS1 K w1
            refine relSeq_on rfl (fun K hK w1 hS1 hD1 => ?_)
            go_simp
            refine ⟨(D1.out w1).mono fun e w2 he => ⟨_, he.1, rfl, HSn.out _ _ hS1 he.2, he.2⟩, fun v hv => ?_⟩
            obtain ⟨_, _, hv⟩ := hv.out
            obtain rfl : v = .bool true := hv
            refine hK _ ?_
            clear hK hD1 hS1 K w1 hv
            refine relSeq_on rfl (fun K hK w1 hS1 hD1 => ?_)
            go_simp
            refine ⟨⟨trivial, hS1, Below.refl _ _⟩, hK _ ?_⟩
            clear hK hD1 hS1 K w1
            refine relSeq_on rfl (fun K hK w1 hS1 hD1 => ?_)
            obtain ⟨d0, d1, d2, d3, d4, d5, d6, d7, d8⟩ := (HS5.out w1 hS1).2.1.c9
            go_simp
            refine ⟨⟨trivial, hS1, Below.refl _ _⟩, hK _ ?_⟩
            clear hK hD1 d0 d1 d2 d3 d4 d5 d6 d7 d8 hS1 K w1
            refine relSeq_on rfl (fun K hK w1 hS1 hD1 => ?_)
            obtain ⟨d0, d1, d2, d3, d4, d5, d6, d7, d8⟩ := (HS5.out w1 hS1).1.c9
            go_simp
            refine ⟨⟨trivial, hS1, Below.refl _ _⟩, hK _ ?_⟩
            clear hK hD1 d0 d1 d2 d3 d4 d5 d6 d7 d8 hS1 K w1
            refine relSeq_on rfl (fun K hK w1 hS1 hD1 => ?_)
            go_simp
            refine ⟨(D2.out w1).mono fun e w2 he => ⟨_, he.1, rfl, HSn.out _ _ hS1 he.2, he.2⟩, fun v hv => ?_⟩
            obtain ⟨_, _, hv⟩ := hv.out
            obtain rfl : v = .bool true := hv
            refine hK _ ?_
            clear hK hD1 hS1 K w1 hv
            refine relSeq_on rfl (fun K hK w1 hS1 hD1 => ?_)
            go_simp
            refine ⟨⟨trivial, hS1, Below.refl _ _⟩, hK _ ?_⟩
            clear hK hD1 hS1 K w1
            refine relSeq_on rfl (fun K hK w1 hS1 hD1 => ?_)
            obtain ⟨d0, d1, d2, d3, d4, d5, d6, d7, d8⟩ := (HS5.out w1 hS1).1.c9
            go_simp
            refine ⟨⟨trivial, hS1, Below.refl _ _⟩, hK _ ?_⟩
            clear hK hD1 d0 d1 d2 d3 d4 d5 d6 d7 d8 hS1 K w1
            refine relSeq_on rfl (fun K hK w1 hS1 hD1 => ?_)
            obtain ⟨d0, d1, d2, d3, d4, d5, d6, d7, d8⟩ := (HS5.out w1 hS1).2.1.c9
            go_simp
            refine ⟨⟨trivial, hS1, Below.refl _ _⟩, hK _ ?_⟩
            clear hK hD1 d0 d1 d2 d3 d4 d5 d6 d7 d8 hS1 K w1
            refine relSeq_on rfl (fun K hK w1 hS1 hD1 => ?_)
            go_simp
            try rw [hq]
            refine ⟨⟨trivial, hS1, Below.refl _ _⟩, hK _ ?_⟩
            clear hK hD1 hS1 K w1
            refine relSeq_on rfl (fun K hK w1 hS1 hD1 => ?_)
            go_simp
            refine ⟨⟨trivial, hS1, Below.refl _ _⟩, hK _ ?_⟩
            clear hK hD1 hS1 K w1
            refine relSeq_on rfl (fun K hK w1 hS1 hD1 => ?_)
            go_simp
            refine ⟨⟨trivial, hS1, Below.refl _ _⟩, hK _ ?_⟩
            clear hK hD1 hS1 K w1
            refine relSeq_on rfl (fun K hK w1 hS1 hD1 => ?_)
            obtain ⟨d0, d1, d2, d3, d4, d5, d6, d7, d8⟩ := (HS5.out w1 hS1).1.c9
            go_simp
            refine ⟨⟨trivial, hS1, Below.refl _ _⟩, hK _ ?_⟩
            clear hK hD1 d0 d1 d2 d3 d4 d5 d6 d7 d8 hS1 K w1
            refine relSeq_on rfl (fun K hK w1 hS1 hD1 => ?_)
            obtain ⟨d0, d1, d2, d3, d4, d5, d6, d7, d8⟩ := (HS5.out w1 hS1).1.c9
            go_simp
            refine ⟨⟨trivial, hS1, Below.refl _ _⟩, hK _ ?_⟩
            clear hK hD1 d0 d1 d2 d3 d4 d5 d6 d7 d8 hS1 K w1
            refine relSeq_on rfl (fun K hK w1 hS1 hD1 => ?_)
            go_simp
            refine ⟨(D3.out w1).mono fun e w2 he => ⟨_, he.1, rfl, HSn.out _ _ hS1 he.2, he.2⟩, fun v hv => ?_⟩
            obtain ⟨_, _, hv⟩ := hv.out
            obtain rfl : v = .bool true := hv
            refine hK _ ?_
            clear hK hD1 hS1 K w1 hv
            refine relSeq_on rfl (fun K hK w1 hS1 hD1 => ?_)
            go_simp
            refine ⟨⟨trivial, hS1, Below.refl _ _⟩, hK _ ?_⟩
            clear hK hD1 hS1 K w1
            refine relSeq_nil ?_
            intro listed w9 hS2 hF2 hl2
            have HBW := Lib.hid (HSd.out w9 hS2)
            clear hF2 hl2 HSd HSn HS5 hS2
            go_wp2
            go_ret
            exact ⟨rfl, HB.out.trans (HBW.out.mono HB.out.size)⟩
        · have C6 : Hid (∀ W, Calls Try.prog 10 #[vec M, vec h] W (Ret (.bool true) W)) := fun W => by have := Covers_any M h W; rwa [HM.out.2.2 hu hv] at this
          clear HM hu
          go_wp2_with fail
          clear hv
          refine (C6.out _).mono ?_
          rintro e X ⟨rfl, hb⟩
          replace H5 := Lib.hid (H5.out.below hb)
          replace HB := Lib.hid (HB.out.trans (hb.mono HB.out.size))
          clear hb c0 c1 c2 c3 c4 c5 c6 c7 c8 d0 d1 d2 d3 d4 d5 d6 d7 d8 e0 e1 e2 e3 e4 e5 e6 e7 e8 i0 i1 i2 i3 i4 i5 i6 i7 i8 j0 j1 j2 j3 j4 j5 j6 j7 j8
          obtain ⟨c0, c1, c2, c3, c4, c5, c6, c7, c8⟩ := H5.out.1.c9; obtain ⟨d0, d1, d2, d3, d4, d5, d6, d7, d8⟩ := H5.out.2.1.c9; obtain ⟨e0, e1, e2, e3, e4, e5, e6, e7, e8⟩ := H5.out.2.2.1.c9; obtain ⟨i0, i1, i2, i3, i4, i5, i6, i7, i8⟩ := H5.out.2.2.2.1.c9; obtain ⟨j0, j1, j2, j3, j4, j5, j6, j7, j8⟩ := H5.out.2.2.2.2.c9
          go_wp2_with fail
          rcases HXY.out with ⟨hx, hq⟩ | ⟨hx, hy, hq⟩ | ⟨hx, hy, hq⟩
          · have D1 : Hid (∀ W, Calls Try.prog 10 #[vec f, vec g] W (Ret (.bool false) W)) := fun W => by have := Covers_any f g W; rwa [hx] at this
            clear hx
            unfold eqVec at hq
            obtain ⟨S, hS⟩ : ∃ S : World → Prop, S = fun Y => Below X.heap.size X Y := ⟨_, rfl⟩
            have HSd : Hid (∀ Y, S Y → Below X.heap.size X Y) := by intro Y hY; rw [hS] at hY; exact hY
            have HS5 : Hid (∀ Y, S Y → Five Y q0 q1 q2 b7 b9 f g h J M) := fun Y hY => H5.out.below (HSd.out Y hY)
            have HSn : Hid (∀ Y Y', S Y → Below Y.heap.size Y Y' → S Y') := by intro Y Y' hY hb; rw [hS] at hY ⊢; exact hY.trans (hb.mono hY.size)
            have hS0 : S X.drew := by rw [hS]; exact (Below.refl _ _).drew
            clear hS c0 c1 c2 c3 c4 c5 c6 c7 c8 d0 d1 d2 d3 d4 d5 d6 d7 d8 e0 e1 e2 e3 e4 e5 e6 e7 e8 i0 i1 i2 i3 i4 i5 i6 i7 i8 j0 j1 j2 j3 j4 j5 j6 j7 j8
            refine wp_region_held_rel 17 S (fun k u _ => match k with | 2 => u = .bool false | 6 => True | 15 => u = .bool true | _ => True) rfl (by kernel_rfl) (by kernel_rfl) (by kernel_rfl) (fun _ _ _ _ _ h => h) hS0 ?_
            clear hS0
            simp only [List.take_succ_cons, List.take_zero, List.drop_succ_cons, List.drop_zero]
            refine relSeq_on rfl (fun K hK w1 hS1 hD1 => ?_)
            obtain ⟨d0, d1, d2, d3, d4, d5, d6, d7, d8⟩ := (HS5.out w1 hS1).1.c9
            go_simp
            refine ⟨⟨trivial, hS1, Below.refl _ _⟩, hK _ ?_⟩
            clear hK hD1 d0 d1 d2 d3 d4 d5 d6 d7 d8 hS1 K w1
            refine relSeq_on rfl (fun K hK w1 hS1 hD1 => ?_)
            obtain ⟨d0, d1, d2, d3, d4, d5, d6, d7, d8⟩ := (HS5.out w1 hS1).2.1.c9
            go_simp
            refine ⟨⟨trivial, hS1, Below.refl _ _⟩, hK _ ?_⟩
            clear hK hD1 d0 d1 d2 d3 d4 d5 d6 d7 d8 hS1 K w1
            refine relSeq_on rfl (fun K hK w1 hS1 hD1 => ?_)
            go_simp
            refine ⟨(D1.out w1).mono fun e w2 he => ⟨_, he.1, rfl, HSn.out _ _ hS1 he.2, he.2⟩, fun v hv => ?_⟩
            obtain ⟨_, _, hv⟩ := hv.out
            obtain rfl : v = .bool false := hv
            refine hK _ ?_
            clear hK hD1 hS1 K w1 hv
            refine relSeq_on rfl (fun K hK w1 hS1 hD1 => ?_)
            go_simp
            refine ⟨⟨trivial, hS1, Below.refl _ _⟩, hK _ ?_⟩
            clear hK hD1 hS1 K w1
            refine relSeq_off rfl (fun _ _ => trivial) (fun K hK => ?_)
            go_simp
            refine hK _ ?_
            clear hK K
            refine relSeq_off rfl (fun _ _ => trivial) (fun K hK => ?_)
            go_simp
            refine hK _ ?_
            clear hK K
            refine relSeq_off rfl (fun _ _ => trivial) (fun K hK => ?_)
            go_simp
            refine hK _ ?_
            clear hK K
            refine relSeq_on rfl (fun K hK w1 hS1 hD1 => ?_)
            go_simp
            refine ⟨⟨trivial, hS1, Below.refl _ _⟩, hK _ ?_⟩
            clear hK hD1 hS1 K w1
            refine relSeq_on rfl (fun K hK w1 hS1 hD1 => ?_)
            obtain ⟨d0, d1, d2, d3, d4, d5, d6, d7, d8⟩ := (HS5.out w1 hS1).1.c9
            go_simp
            refine ⟨⟨trivial, hS1, Below.refl _ _⟩, hK _ ?_⟩
            clear hK hD1 d0 d1 d2 d3 d4 d5 d6 d7 d8 hS1 K w1
            refine relSeq_on rfl (fun K hK w1 hS1 hD1 => ?_)
            obtain ⟨d0, d1, d2, d3, d4, d5, d6, d7, d8⟩ := (HS5.out w1 hS1).2.1.c9
            go_simp
            refine ⟨⟨trivial, hS1, Below.refl _ _⟩, hK _ ?_⟩
            clear hK hD1 d0 d1 d2 d3 d4 d5 d6 d7 d8 hS1 K w1
            refine relSeq_on rfl (fun K hK w1 hS1 hD1 => ?_)
            go_simp
            try rw [hq]
            refine ⟨⟨trivial, hS1, Below.refl _ _⟩, hK _ ?_⟩
            clear hK hD1 hS1 K w1
            refine relSeq_on rfl (fun K hK w1 hS1 hD1 => ?_)
            go_simp
            refine ⟨⟨trivial, hS1, Below.refl _ _⟩, hK _ ?_⟩
            clear hK hD1 hS1 K w1
            refine relSeq_on rfl (fun K hK w1 hS1 hD1 => ?_)
            go_simp
            refine ⟨⟨trivial, hS1, Below.refl _ _⟩, hK _ ?_⟩
            clear hK hD1 hS1 K w1
            refine relSeq_on rfl (fun K hK w1 hS1 hD1 => ?_)
            obtain ⟨d0, d1, d2, d3, d4, d5, d6, d7, d8⟩ := (HS5.out w1 hS1).1.c9
            go_simp
            refine ⟨⟨trivial, hS1, Below.refl _ _⟩, hK _ ?_⟩
            clear hK hD1 d0 d1 d2 d3 d4 d5 d6 d7 d8 hS1 K w1
            refine relSeq_on rfl (fun K hK w1 hS1 hD1 => ?_)
            obtain ⟨d0, d1, d2, d3, d4, d5, d6, d7, d8⟩ := (HS5.out w1 hS1).1.c9
            go_simp
            refine ⟨⟨trivial, hS1, Below.refl _ _⟩, hK _ ?_⟩
            clear hK hD1 d0 d1 d2 d3 d4 d5 d6 d7 d8 hS1 K w1
            refine relSeq_on rfl (fun K hK w1 hS1 hD1 => ?_)
            go_simp
            refine ⟨(D3.out w1).mono fun e w2 he => ⟨_, he.1, rfl, HSn.out _ _ hS1 he.2, he.2⟩, fun v hv => ?_⟩
            obtain ⟨_, _, hv⟩ := hv.out
            obtain rfl : v = .bool true := hv
            refine hK _ ?_
            clear hK hD1 hS1 K w1 hv
            refine relSeq_on rfl (fun K hK w1 hS1 hD1 => ?_)
            go_simp
            refine ⟨⟨trivial, hS1, Below.refl _ _⟩, hK _ ?_⟩
            clear hK hD1 hS1 K w1
            refine relSeq_nil ?_
            intro listed w9 hS2 hF2 hl2
            have HBW := Lib.hid (HSd.out w9 hS2)
            clear hF2 hl2 HSd HSn HS5 hS2
            go_wp2
            go_ret
            exact ⟨rfl, HB.out.trans (HBW.out.mono HB.out.size)⟩
          · have D1 : Hid (∀ W, Calls Try.prog 10 #[vec f, vec g] W (Ret (.bool true) W)) := fun W => by have := Covers_any f g W; rwa [hx] at this
            have D2 : Hid (∀ W, Calls Try.prog 10 #[vec g, vec f] W (Ret (.bool false) W)) := fun W => by have := Covers_any g f W; rwa [hy] at this
            clear hx hy
            unfold eqVec at hq
            obtain ⟨S, hS⟩ : ∃ S : World → Prop, S = fun Y => Below X.heap.size X Y := ⟨_, rfl⟩
            have HSd : Hid (∀ Y, S Y → Below X.heap.size X Y) := by intro Y hY; rw [hS] at hY; exact hY
            have HS5 : Hid (∀ Y, S Y → Five Y q0 q1 q2 b7 b9 f g h J M) := fun Y hY => H5.out.below (HSd.out Y hY)
            have HSn : Hid (∀ Y Y', S Y → Below Y.heap.size Y Y' → S Y') := by intro Y Y' hY hb; rw [hS] at hY ⊢; exact hY.trans (hb.mono hY.size)
            have hS0 : S X.drew := by rw [hS]; exact (Below.refl _ _).drew
            clear hS c0 c1 c2 c3 c4 c5 c6 c7 c8 d0 d1 d2 d3 d4 d5 d6 d7 d8 e0 e1 e2 e3 e4 e5 e6 e7 e8 i0 i1 i2 i3 i4 i5 i6 i7 i8 j0 j1 j2 j3 j4 j5 j6 j7 j8
            refine wp_region_held_rel 17 S (fun k u _ => match k with | 2 => u = .bool true | 6 => u = .bool false | 15 => u = .bool true | _ => True) rfl (by kernel_rfl) (by kernel_rfl) (by kernel_rfl) (fun _ _ _ _ _ h => h) hS0 ?_
            clear hS0
            simp only [List.take_succ_cons, List.take_zero, List.drop_succ_cons, List.drop_zero]
            refine relSeq_on rfl (fun K hK w1 hS1 hD1 => ?_)
            obtain ⟨d0, d1, d2, d3, d4, d5, d6, d7, d8⟩ := (HS5.out w1 hS1).1.c9
            go_simp
            refine ⟨⟨trivial, hS1, Below.refl _ _⟩, hK _ ?_⟩
            clear hK hD1 d0 d1 d2 d3 d4 d5 d6 d7 d8 hS1 K w1
            refine relSeq_on rfl (fun K hK w1 hS1 hD1 => ?_)
            obtain ⟨d0, d1, d2, d3, d4, d5, d6, d7, d8⟩ := (HS5.out w1 hS1).2.1.c9
            go_simp
            refine ⟨⟨trivial, hS1, Below.refl _ _⟩, hK _ ?_⟩
            clear hK hD1 d0 d1 d2 d3 d4 d5 d6 d7 d8 hS1 K w1
            refine relSeq_on rfl (fun K hK w1 hS1 hD1 => ?_)
            go_simp
            refine ⟨(D1.out w1).mono fun e w2 he => ⟨_, he.1, rfl, HSn.out _ _ hS1 he.2, he.2⟩, fun v hv => ?_⟩
            obtain ⟨_, _, hv⟩ := hv.out
            obtain rfl : v = .bool true := hv
            refine hK _ ?_
            clear hK hD1 hS1 K w1 hv
            refine relSeq_on rfl (fun K hK w1 hS1 hD1 => ?_)
            go_simp
            refine ⟨⟨trivial, hS1, Below.refl _ _⟩, hK _ ?_⟩
            clear hK hD1 hS1 K w1
            refine relSeq_on rfl (fun K hK w1 hS1 hD1 => ?_)
            obtain ⟨d0, d1, d2, d3, d4, d5, d6, d7, d8⟩ := (HS5.out w1 hS1).2.1.c9
            go_simp
            refine ⟨⟨trivial, hS1, Below.refl _ _⟩, hK _ ?_⟩
            clear hK hD1 d0 d1 d2 d3 d4 d5 d6 d7 d8 hS1 K w1
            refine relSeq_on rfl (fun K hK w1 hS1 hD1 => ?_)
            obtain ⟨d0, d1, d2, d3, d4, d5, d6, d7, d8⟩ := (HS5.out w1 hS1).1.c9
            go_simp
            refine ⟨⟨trivial, hS1, Below.refl _ _⟩, hK _ ?_⟩
            clear hK hD1 d0 d1 d2 d3 d4 d5 d6 d7 d8 hS1 K w1
            refine relSeq_on rfl (fun K hK w1 hS1 hD1 => ?_)
            go_simp
            refine ⟨(D2.out w1).mono fun e w2 he => ⟨_, he.1, rfl, HSn.out _ _ hS1 he.2, he.2⟩, fun v hv => ?_⟩
            obtain ⟨_, _, hv⟩ := hv.out
            obtain rfl : v = .bool false := hv
            refine hK _ ?_
            clear hK hD1 hS1 K w1 hv
            refine relSeq_on rfl (fun K hK w1 hS1 hD1 => ?_)
            go_simp
            refine ⟨⟨trivial, hS1, Below.refl _ _⟩, hK _ ?_⟩
            clear hK hD1 hS1 K w1
            refine relSeq_on rfl (fun K hK w1 hS1 hD1 => ?_)
            obtain ⟨d0, d1, d2, d3, d4, d5, d6, d7, d8⟩ := (HS5.out w1 hS1).1.c9
            go_simp
            refine ⟨⟨trivial, hS1, Below.refl _ _⟩, hK _ ?_⟩
            clear hK hD1 d0 d1 d2 d3 d4 d5 d6 d7 d8 hS1 K w1
            refine relSeq_on rfl (fun K hK w1 hS1 hD1 => ?_)
            obtain ⟨d0, d1, d2, d3, d4, d5, d6, d7, d8⟩ := (HS5.out w1 hS1).2.1.c9
            go_simp
            refine ⟨⟨trivial, hS1, Below.refl _ _⟩, hK _ ?_⟩
            clear hK hD1 d0 d1 d2 d3 d4 d5 d6 d7 d8 hS1 K w1
            refine relSeq_on rfl (fun K hK w1 hS1 hD1 => ?_)
            go_simp
            try rw [hq]
            refine ⟨⟨trivial, hS1, Below.refl _ _⟩, hK _ ?_⟩
            clear hK hD1 hS1 K w1
            refine relSeq_on rfl (fun K hK w1 hS1 hD1 => ?_)
            go_simp
            refine ⟨⟨trivial, hS1, Below.refl _ _⟩, hK _ ?_⟩
            clear hK hD1 hS1 K w1
            refine relSeq_on rfl (fun K hK w1 hS1 hD1 => ?_)
            go_simp
            refine ⟨⟨trivial, hS1, Below.refl _ _⟩, hK _ ?_⟩
            clear hK hD1 hS1 K w1
            refine relSeq_on rfl (fun K hK w1 hS1 hD1 => ?_)
            obtain ⟨d0, d1, d2, d3, d4, d5, d6, d7, d8⟩ := (HS5.out w1 hS1).1.c9
            go_simp
            refine ⟨⟨trivial, hS1, Below.refl _ _⟩, hK _ ?_⟩
            clear hK hD1 d0 d1 d2 d3 d4 d5 d6 d7 d8 hS1 K w1
            refine relSeq_on rfl (fun K hK w1 hS1 hD1 => ?_)
            obtain ⟨d0, d1, d2, d3, d4, d5, d6, d7, d8⟩ := (HS5.out w1 hS1).1.c9
            go_simp
            refine ⟨⟨trivial, hS1, Below.refl _ _⟩, hK _ ?_⟩
            clear hK hD1 d0 d1 d2 d3 d4 d5 d6 d7 d8 hS1 K w1
            refine relSeq_on rfl (fun K hK w1 hS1 hD1 => ?_)
            go_simp
            refine ⟨(D3.out w1).mono fun e w2 he => ⟨_, he.1, rfl, HSn.out _ _ hS1 he.2, he.2⟩, fun v hv => ?_⟩
            obtain ⟨_, _, hv⟩ := hv.out
            obtain rfl : v = .bool true := hv
            refine hK _ ?_
            clear hK hD1 hS1 K w1 hv
            refine relSeq_on rfl (fun K hK w1 hS1 hD1 => ?_)
            go_simp
            refine ⟨⟨trivial, hS1, Below.refl _ _⟩, hK _ ?_⟩
            clear hK hD1 hS1 K w1
            refine relSeq_nil ?_
            intro listed w9 hS2 hF2 hl2
            have HBW := Lib.hid (HSd.out w9 hS2)
            clear hF2 hl2 HSd HSn HS5 hS2
            go_wp2
            go_ret
            exact ⟨rfl, HB.out.trans (HBW.out.mono HB.out.size)⟩
          · have D1 : Hid (∀ W, Calls Try.prog 10 #[vec f, vec g] W (Ret (.bool true) W)) := fun W => by have := Covers_any f g W; rwa [hx] at this
            have D2 : Hid (∀ W, Calls Try.prog 10 #[vec g, vec f] W (Ret (.bool true) W)) := fun W => by have := Covers_any g f W; rwa [hy] at this
            clear hx hy
            unfold eqVec at hq
            obtain ⟨S, hS⟩ : ∃ S : World → Prop, S = fun Y => Below X.heap.size X Y := ⟨_, rfl⟩
            have HSd : Hid (∀ Y, S Y → Below X.heap.size X Y) := by intro Y hY; rw [hS] at hY; exact hY
            have HS5 : Hid (∀ Y, S Y → Five Y q0 q1 q2 b7 b9 f g h J M) := fun Y hY => H5.out.below (HSd.out Y hY)
            have HSn : Hid (∀ Y Y', S Y → Below Y.heap.size Y Y' → S Y') := by intro Y Y' hY hb; rw [hS] at hY ⊢; exact hY.trans (hb.mono hY.size)
            have hS0 : S X.drew := by rw [hS]; exact (Below.refl _ _).drew
            clear hS c0 c1 c2 c3 c4 c5 c6 c7 c8 d0 d1 d2 d3 d4 d5 d6 d7 d8 e0 e1 e2 e3 e4 e5 e6 e7 e8 i0 i1 i2 i3 i4 i5 i6 i7 i8 j0 j1 j2 j3 j4 j5 j6 j7 j8
            refine wp_region_held_rel 17 S (fun k u _ => match k with | 2 => u = .bool true | 6 => u = .bool true | 15 => u = .bool true | _ => True) rfl (by kernel_rfl) (by kernel_rfl) (by kernel_rfl) (fun _ _ _ _ _ h => h) hS0 ?_
            clear hS0
            simp only [List.take_succ_cons, List.take_zero, List.drop_succ_cons, List.drop_zero]
            refine relSeq_on rfl (fun K hK w1 hS1 hD1 => ?_)
            obtain ⟨d0, d1, d2, d3, d4, d5, d6, d7, d8⟩ := (HS5.out w1 hS1).1.c9
            go_simp
            refine ⟨⟨trivial, hS1, Below.refl _ _⟩, hK _ ?_⟩
            clear hK hD1 d0 d1 d2 d3 d4 d5 d6 d7 d8 hS1 K w1
            refine relSeq_on rfl (fun K hK w1 hS1 hD1 => ?_)
            obtain ⟨d0, d1, d2, d3, d4, d5, d6, d7, d8⟩ := (HS5.out w1 hS1).2.1.c9
            go_simp
            refine ⟨⟨trivial, hS1, Below.refl _ _⟩, hK _ ?_⟩
            clear hK hD1 d0 d1 d2 d3 d4 d5 d6 d7 d8 hS1 K w1
            refine relSeq_on rfl (fun K hK w1 hS1 hD1 => ?_)
            go_simp
            refine ⟨(D1.out w1).mono fun e w2 he => ⟨_, he.1, rfl, HSn.out _ _ hS1 he.2, he.2⟩, fun v hv => ?_⟩
            obtain ⟨_, _, hv⟩ := hv.out
            obtain rfl : v = .bool true := hv
            refine hK _ ?_
            clear hK hD1 hS1 K w1 hv
            refine relSeq_on rfl (fun K hK w1 hS1 hD1 => ?_)
            go_simp
            refine ⟨⟨trivial, hS1, Below.refl _ _⟩, hK _ ?_⟩
            clear hK hD1 hS1 K w1
            refine relSeq_on rfl (fun K hK w1 hS1 hD1 => ?_)
            obtain ⟨d0, d1, d2, d3, d4, d5, d6, d7, d8⟩ := (HS5.out w1 hS1).2.1.c9
            go_simp
            refine ⟨⟨trivial, hS1, Below.refl _ _⟩, hK _ ?_⟩
            clear hK hD1 d0 d1 d2 d3 d4 d5 d6 d7 d8 hS1 K w1
            refine relSeq_on rfl (fun K hK w1 hS1 hD1 => ?_)
            obtain ⟨d0, d1, d2, d3, d4, d5, d6, d7, d8⟩ := (HS5.out w1 hS1).1.c9
            go_simp
            refine ⟨⟨trivial, hS1, Below.refl _ _⟩, hK _ ?_⟩
            clear hK hD1 d0 d1 d2 d3 d4 d5 d6 d7 d8 hS1 K w1
            refine relSeq_on rfl (fun K hK w1 hS1 hD1 => ?_)
            go_simp
            refine ⟨(D2.out w1).mono fun e w2 he => ⟨_, he.1, rfl, HSn.out _ _ hS1 he.2, he.2⟩, fun v hv => ?_⟩
            obtain ⟨_, _, hv⟩ := hv.out
            obtain rfl : v = .bool true := hv
            refine hK _ ?_
            clear hK hD1 hS1 K w1 hv
            refine relSeq_on rfl (fun K hK w1 hS1 hD1 => ?_)
            go_simp
            refine ⟨⟨trivial, hS1, Below.refl _ _⟩, hK _ ?_⟩
            clear hK hD1 hS1 K w1
            refine relSeq_on rfl (fun K hK w1 hS1 hD1 => ?_)
            obtain ⟨d0, d1, d2, d3, d4, d5, d6, d7, d8⟩ := (HS5.out w1 hS1).1.c9
            go_simp
            refine ⟨⟨trivial, hS1, Below.refl _ _⟩, hK _ ?_⟩
            clear hK hD1 d0 d1 d2 d3 d4 d5 d6 d7 d8 hS1 K w1
            refine relSeq_on rfl (fun K hK w1 hS1 hD1 => ?_)
            obtain ⟨d0, d1, d2, d3, d4, d5, d6, d7, d8⟩ := (HS5.out w1 hS1).2.1.c9
            go_simp
            refine ⟨⟨trivial, hS1, Below.refl _ _⟩, hK _ ?_⟩
            clear hK hD1 d0 d1 d2 d3 d4 d5 d6 d7 d8 hS1 K w1
            refine relSeq_on rfl (fun K hK w1 hS1 hD1 => ?_)
            go_simp
            try rw [hq]
            refine ⟨⟨trivial, hS1, Below.refl _ _⟩, hK _ ?_⟩
            clear hK hD1 hS1 K w1
            refine relSeq_on rfl (fun K hK w1 hS1 hD1 => ?_)
            go_simp
            refine ⟨⟨trivial, hS1, Below.refl _ _⟩, hK _ ?_⟩
            clear hK hD1 hS1 K w1
            refine relSeq_on rfl (fun K hK w1 hS1 hD1 => ?_)
            go_simp
            refine ⟨⟨trivial, hS1, Below.refl _ _⟩, hK _ ?_⟩
            clear hK hD1 hS1 K w1
            refine relSeq_on rfl (fun K hK w1 hS1 hD1 => ?_)
            obtain ⟨d0, d1, d2, d3, d4, d5, d6, d7, d8⟩ := (HS5.out w1 hS1).1.c9
            go_simp
            refine ⟨⟨trivial, hS1, Below.refl _ _⟩, hK _ ?_⟩
            clear hK hD1 d0 d1 d2 d3 d4 d5 d6 d7 d8 hS1 K w1
            refine relSeq_on rfl (fun K hK w1 hS1 hD1 => ?_)
            obtain ⟨d0, d1, d2, d3, d4, d5, d6, d7, d8⟩ := (HS5.out w1 hS1).1.c9
            go_simp
            refine ⟨⟨trivial, hS1, Below.refl _ _⟩, hK _ ?_⟩
            clear hK hD1 d0 d1 d2 d3 d4 d5 d6 d7 d8 hS1 K w1
            refine relSeq_on rfl (fun K hK w1 hS1 hD1 => ?_)
            go_simp
            refine ⟨(D3.out w1).mono fun e w2 he => ⟨_, he.1, rfl, HSn.out _ _ hS1 he.2, he.2⟩, fun v hv => ?_⟩
            obtain ⟨_, _, hv⟩ := hv.out
            obtain rfl : v = .bool true := hv
            refine hK _ ?_
            clear hK hD1 hS1 K w1 hv
            refine relSeq_on rfl (fun K hK w1 hS1 hD1 => ?_)
            go_simp
            refine ⟨⟨trivial, hS1, Below.refl _ _⟩, hK _ ?_⟩
            clear hK hD1 hS1 K w1
            refine relSeq_nil ?_
            intro listed w9 hS2 hF2 hl2
            have HBW := Lib.hid (HSd.out w9 hS2)
            clear hF2 hl2 HSd HSn HS5 hS2
            go_wp2
            go_ret
            exact ⟨rfl, HB.out.trans (HBW.out.mono HB.out.size)⟩
    · have C5 : Hid (∀ W, Calls Try.prog 10 #[vec h, vec J] W (Ret (.bool true) W)) := fun W => by have := Covers_any h J W; rwa [HJ.out.2.2 hx hy] at this
      clear HJ hx
      go_wp2_with fail
      clear hy
      refine (C5.out _).mono ?_
      rintro e X ⟨rfl, hb⟩
      replace H5 := Lib.hid (H5.out.below hb)
      replace HB := Lib.hid (HB.out.trans (hb.mono HB.out.size))
      clear hb c0 c1 c2 c3 c4 c5 c6 c7 c8 d0 d1 d2 d3 d4 d5 d6 d7 d8 e0 e1 e2 e3 e4 e5 e6 e7 e8 i0 i1 i2 i3 i4 i5 i6 i7 i8 j0 j1 j2 j3 j4 j5 j6 j7 j8
      obtain ⟨c0, c1, c2, c3, c4, c5, c6, c7, c8⟩ := H5.out.1.c9; obtain ⟨d0, d1, d2, d3, d4, d5, d6, d7, d8⟩ := H5.out.2.1.c9; obtain ⟨e0, e1, e2, e3, e4, e5, e6, e7, e8⟩ := H5.out.2.2.1.c9; obtain ⟨i0, i1, i2, i3, i4, i5, i6, i7, i8⟩ := H5.out.2.2.2.1.c9; obtain ⟨j0, j1, j2, j3, j4, j5, j6, j7, j8⟩ := H5.out.2.2.2.2.c9
      go_wp2_with fail
      refine (Covers_any f h _).mono ?_
      rintro e X ⟨rfl, hb⟩
      replace H5 := Lib.hid (H5.out.below hb)
      replace HB := Lib.hid (HB.out.trans (hb.mono HB.out.size))
      clear hb c0 c1 c2 c3 c4 c5 c6 c7 c8 d0 d1 d2 d3 d4 d5 d6 d7 d8 e0 e1 e2 e3 e4 e5 e6 e7 e8 i0 i1 i2 i3 i4 i5 i6 i7 i8 j0 j1 j2 j3 j4 j5 j6 j7 j8
      obtain ⟨c0, c1, c2, c3, c4, c5, c6, c7, c8⟩ := H5.out.1.c9; obtain ⟨d0, d1, d2, d3, d4, d5, d6, d7, d8⟩ := H5.out.2.1.c9; obtain ⟨e0, e1, e2, e3, e4, e5, e6, e7, e8⟩ := H5.out.2.2.1.c9; obtain ⟨i0, i1, i2, i3, i4, i5, i6, i7, i8⟩ := H5.out.2.2.2.1.c9; obtain ⟨j0, j1, j2, j3, j4, j5, j6, j7, j8⟩ := H5.out.2.2.2.2.c9
      cases hu : covB f h
      · clear HM
        go_wp2_with fail
        clear hu
        rcases HXY.out with ⟨hx, hq⟩ | ⟨hx, hy, hq⟩ | ⟨hx, hy, hq⟩
        · have D1 : Hid (∀ W, Calls Try.prog 10 #[vec f, vec g] W (Ret (.bool false) W)) := fun W => by have := Covers_any f g W; rwa [hx] at this
          clear hx
          unfold eqVec at hq
          obtain ⟨S, hS⟩ : ∃ S : World → Prop, S = fun Y => Below X.heap.size X Y := ⟨_, rfl⟩
          have HSd : Hid (∀ Y, S Y → Below X.heap.size X Y) := by intro Y hY; rw [hS] at hY; exact hY
          have HS5 : Hid (∀ Y, S Y → Five Y q0 q1 q2 b7 b9 f g h J M) := fun Y hY => H5.out.below (HSd.out Y hY)
          have HSn : Hid (∀ Y Y', S Y → Below Y.heap.size Y Y' → S Y') := by intro Y Y' hY hb; rw [hS] at hY ⊢; exact hY.trans (hb.mono hY.size)
          have hS0 : S X.drew := by rw [hS]; exact (Below.refl _ _).drew
          clear hS c0 c1 c2 c3 c4 c5 c6 c7 c8 d0 d1 d2 d3 d4 d5 d6 d7 d8 e0 e1 e2 e3 e4 e5 e6 e7 e8 i0 i1 i2 i3 i4 i5 i6 i7 i8 j0 j1 j2 j3 j4 j5 j6 j7 j8
          refine wp_region_held_rel 17 S (fun k u _ => match k with | 2 => u = .bool false | 6 => True | 15 => u = .bool true | _ => True) rfl (by kernel_rfl) (by kernel_rfl) (by kernel_rfl) (fun _ _ _ _ _ h => h) hS0 ?_
          clear hS0
          simp only [List.take_succ_cons, List.take_zero, List.drop_succ_cons, List.drop_zero]
          refine relSeq_on rfl (fun K hK w1 hS1 hD1 => ?_)
          obtain ⟨d0, d1, d2, d3, d4, d5, d6, d7, d8⟩ := (HS5.out w1 hS1).1.c9
          go_simp
          refine ⟨⟨trivial, hS1, Below.refl _ _⟩, hK _ ?_⟩
          clear hK hD1 d0 d1 d2 d3 d4 d5 d6 d7 d8 hS1 K w1
          refine relSeq_on rfl (fun K hK w1 hS1 hD1 => ?_)
          obtain ⟨d0, d1, d2, d3, d4, d5, d6, d7, d8⟩ := (HS5.out w1 hS1).2.1.c9
          go_simp
          refine ⟨⟨trivial, hS1, Below.refl _ _⟩, hK _ ?_⟩
          clear hK hD1 d0 d1 d2 d3 d4 d5 d6 d7 d8 hS1 K w1
          refine relSeq_on rfl (fun K hK w1 hS1 hD1 => ?_)
          go_simp
          refine ⟨(D1.out w1).mono fun e w2 he => ⟨_, he.1, rfl, HSn.out _ _ hS1 he.2, he.2⟩, fun v hv => ?_⟩
          obtain ⟨_, _, hv⟩ := hv.out
          obtain rfl : v = .bool false := hv
          refine hK _ ?_
          clear hK hD1 hS1 K w1 hv
          refine relSeq_on rfl (fun K hK w1 hS1 hD1 => ?_)
          go_simp
          refine ⟨⟨trivial, hS1, Below.refl _ _⟩, hK _ ?_⟩
          clear hK hD1 hS1 K w1
          refine relSeq_off rfl (fun _ _ => trivial) (fun K hK => ?_)
          go_simp
          refine hK _ ?_
          clear hK K
          refine relSeq_off rfl (fun _ _ => trivial) (fun K hK => ?_)
          go_simp
          refine hK _ ?_
          clear hK K
          refine relSeq_off rfl (fun _ _ => trivial) (fun K hK => ?_)
          go_simp
          refine hK _ ?_
          clear hK K
          refine relSeq_on rfl (fun K hK w1 hS1 hD1 => ?_)
          go_simp
          refine ⟨⟨trivial, hS1, Below.refl _ _⟩, hK _ ?_⟩
          clear hK hD1 hS1 K w1
          refine relSeq_on rfl (fun K hK w1 hS1 hD1 => ?_)
          obtain ⟨d0, d1, d2, d3, d4, d5, d6, d7, d8⟩ := (HS5.out w1 hS1).1.c9
          go_simp
          refine ⟨⟨trivial, hS1, Below.refl _ _⟩, hK _ ?_⟩
          clear hK hD1 d0 d1 d2 d3 d4 d5 d6 d7 d8 hS1 K w1
          refine relSeq_on rfl (fun K hK w1 hS1 hD1 => ?_)
          obtain ⟨d0, d1, d2, d3, d4, d5, d6, d7, d8⟩ := (HS5.out w1 hS1).2.1.c9
          go_simp
          refine ⟨⟨trivial, hS1, Below.refl _ _⟩, hK _ ?_⟩
          clear hK hD1 d0 d1 d2 d3 d4 d5 d6 d7 d8 hS1 K w1
          refine relSeq_on rfl (fun K hK w1 hS1 hD1 => ?_)
          go_simp
          try rw [hq]
          refine ⟨⟨trivial, hS1, Below.refl _ _⟩, hK _ ?_⟩
          clear hK hD1 hS1 K w1
          refine relSeq_on rfl (fun K hK w1 hS1 hD1 => ?_)
          go_simp
          refine ⟨⟨trivial, hS1, Below.refl _ _⟩, hK _ ?_⟩
          clear hK hD1 hS1 K w1
          refine relSeq_on rfl (fun K hK w1 hS1 hD1 => ?_)
          go_simp
          refine ⟨⟨trivial, hS1, Below.refl _ _⟩, hK _ ?_⟩
          clear hK hD1 hS1 K w1
          refine relSeq_on rfl (fun K hK w1 hS1 hD1 => ?_)
          obtain ⟨d0, d1, d2, d3, d4, d5, d6, d7, d8⟩ := (HS5.out w1 hS1).1.c9
          go_simp
          refine ⟨⟨trivial, hS1, Below.refl _ _⟩, hK _ ?_⟩
          clear hK hD1 d0 d1 d2 d3 d4 d5 d6 d7 d8 hS1 K w1
          refine relSeq_on rfl (fun K hK w1 hS1 hD1 => ?_)
          obtain ⟨d0, d1, d2, d3, d4, d5, d6, d7, d8⟩ := (HS5.out w1 hS1).1.c9
          go_simp
          refine ⟨⟨trivial, hS1, Below.refl _ _⟩, hK _ ?_⟩
          clear hK hD1 d0 d1 d2 d3 d4 d5 d6 d7 d8 hS1 K w1
          refine relSeq_on rfl (fun K hK w1 hS1 hD1 => ?_)
          go_simp
          refine ⟨(D3.out w1).mono fun e w2 he => ⟨_, he.1, rfl, HSn.out _ _ hS1 he.2, he.2⟩, fun v hv => ?_⟩
          obtain ⟨_, _, hv⟩ := hv.out
          obtain rfl : v = .bool true := hv
          refine hK _ ?_
          clear hK hD1 hS1 K w1 hv
          refine relSeq_on rfl (fun K hK w1 hS1 hD1 => ?_)
          go_simp
          refine ⟨⟨trivial, hS1, Below.refl _ _⟩, hK _ ?_⟩
          clear hK hD1 hS1 K w1
          refine relSeq_nil ?_
          intro listed w9 hS2 hF2 hl2
          have HBW := Lib.hid (HSd.out w9 hS2)
          clear hF2 hl2 HSd HSn HS5 hS2
          go_wp2
          go_ret
          exact ⟨rfl, HB.out.trans (HBW.out.mono HB.out.size)⟩
        · have D1 : Hid (∀ W, Calls Try.prog 10 #[vec f, vec g] W (Ret (.bool true) W)) := fun W => by have := Covers_any f g W; rwa [hx] at this
          have D2 : Hid (∀ W, Calls Try.prog 10 #[vec g, vec f] W (Ret (.bool false) W)) := fun W => by have := Covers_any g f W; rwa [hy] at this
          clear hx hy
          unfold eqVec at hq
          obtain ⟨S, hS⟩ : ∃ S : World → Prop, S = fun Y => Below X.heap.size X Y := ⟨_, rfl⟩
          have HSd : Hid (∀ Y, S Y → Below X.heap.size X Y) := by intro Y hY; rw [hS] at hY; exact hY
          have HS5 : Hid (∀ Y, S Y → Five Y q0 q1 q2 b7 b9 f g h J M) := fun Y hY => H5.out.below (HSd.out Y hY)
          have HSn : Hid (∀ Y Y', S Y → Below Y.heap.size Y Y' → S Y') := by intro Y Y' hY hb; rw [hS] at hY ⊢; exact hY.trans (hb.mono hY.size)
          have hS0 : S X.drew := by rw [hS]; exact (Below.refl _ _).drew
          clear hS c0 c1 c2 c3 c4 c5 c6 c7 c8 d0 d1 d2 d3 d4 d5 d6 d7 d8 e0 e1 e2 e3 e4 e5 e6 e7 e8 i0 i1 i2 i3 i4 i5 i6 i7 i8 j0 j1 j2 j3 j4 j5 j6 j7 j8
          refine wp_region_held_rel 17 S (fun k u _ => match k with | 2 => u = .bool true | 6 => u = .bool false | 15 => u = .bool true | _ => True) rfl (by kernel_rfl) (by kernel_rfl) (by kernel_rfl) (fun _ _ _ _ _ h => h) hS0 ?_
          clear hS0
          simp only [List.take_succ_cons, List.take_zero, List.drop_succ_cons, List.drop_zero]
          refine relSeq_on rfl (fun K hK w1 hS1 hD1 => ?_)
          obtain ⟨d0, d1, d2, d3, d4, d5, d6, d7, d8⟩ := (HS5.out w1 hS1).1.c9
          go_simp
          refine ⟨⟨trivial, hS1, Below.refl _ _⟩, hK _ ?_⟩
          clear hK hD1 d0 d1 d2 d3 d4 d5 d6 d7 d8 hS1 K w1
          refine relSeq_on rfl (fun K hK w1 hS1 hD1 => ?_)
          obtain ⟨d0, d1, d2, d3, d4, d5, d6, d7, d8⟩ := (HS5.out w1 hS1).2.1.c9
          go_simp
          refine ⟨⟨trivial, hS1, Below.refl _ _⟩, hK _ ?_⟩
          clear hK hD1 d0 d1 d2 d3 d4 d5 d6 d7 d8 hS1 K w1
          refine relSeq_on rfl (fun K hK w1 hS1 hD1 => ?_)
          go_simp
          refine ⟨(D1.out w1).mono fun e w2 he => ⟨_, he.1, rfl, HSn.out _ _ hS1 he.2, he.2⟩, fun v hv => ?_⟩
          obtain ⟨_, _, hv⟩ := hv.out
          obtain rfl : v = .bool true := hv
          refine hK _ ?_
          clear hK hD1 hS1 K w1 hv
          refine relSeq_on rfl (fun K hK w1 hS1 hD1 => ?_)
          go_simp
          refine ⟨⟨trivial, hS1, Below.refl _ _⟩, hK _ ?_⟩
          clear hK hD1 hS1 K w1
          refine relSeq_on rfl (fun K hK w1 hS1 hD1 => ?_)
          obtain ⟨d0, d1, d2, d3, d4, d5, d6, d7, d8⟩ := (HS5.out w1 hS1).2.1.c9
          go_simp
          refine ⟨⟨trivial, hS1, Below.refl _ _⟩, hK _ ?_⟩
          clear hK hD1 d0 d1 d2 d3 d4 d5 d6 d7 d8 hS1 K w1
          refine relSeq_on rfl (fun K hK w1 hS1 hD1 => ?_)
          obtain ⟨d0, d1, d2, d3, d4, d5, d6, d7, d8⟩ := (HS5.out w1 hS1).1.c9
          go_simp
          refine ⟨⟨trivial, hS1, Below.refl _ _⟩, hK _ ?_⟩
          clear hK hD1 d0 d1 d2 d3 d4 d5 d6 d7 d8 hS1 K w1
          refine relSeq_on rfl (fun K hK w1 hS1 hD1 => ?_)
          go_simp
          refine ⟨(D2.out w1).mono fun e w2 he => ⟨_, he.1, rfl, HSn.out _ _ hS1 he.2, he.2⟩, fun v hv => ?_⟩
          obtain ⟨_, _, hv⟩ := hv.out
          obtain rfl : v = .bool false := hv
          refine hK _ ?_
          clear hK hD1 hS1 K w1 hv
          refine relSeq_on rfl (fun K hK w1 hS1 hD1 => ?_)
          go_simp
          refine ⟨⟨trivial, hS1, Below.refl _ _⟩, hK _ ?_⟩
          clear hK hD1 hS1 K w1
          refine relSeq_on rfl (fun K hK w1 hS1 hD1 => ?_)
          obtain ⟨d0, d1, d2, d3, d4, d5, d6, d7, d8⟩ := (HS5.out w1 hS1).1.c9
          go_simp
          refine ⟨⟨trivial, hS1, Below.refl _ _⟩, hK _ ?_⟩
          clear hK hD1 d0 d1 d2 d3 d4 d5 d6 d7 d8 hS1 K w1
          refine relSeq_on rfl (fun K hK w1 hS1 hD1 => ?_)
          obtain ⟨d0, d1, d2, d3, d4, d5, d6, d7, d8⟩ := (HS5.out w1 hS1).2.1.c9
          go_simp
          refine ⟨⟨trivial, hS1, Below.refl _ _⟩, hK _ ?_⟩
          clear hK hD1 d0 d1 d2 d3 d4 d5 d6 d7 d8 hS1 K w1
          refine relSeq_on rfl (fun K hK w1 hS1 hD1 => ?_)
          go_simp
          try rw [hq]
          refine ⟨⟨trivial, hS1, Below.refl _ _⟩, hK _ ?_⟩
          clear hK hD1 hS1 K w1
          refine relSeq_on rfl (fun K hK w1 hS1 hD1 => ?_)
          go_simp
          refine ⟨⟨trivial, hS1, Below.refl _ _⟩, hK _ ?_⟩
          clear hK hD1 hS1 K w1
          refine relSeq_on rfl (fun K hK w1 hS1 hD1 => ?_)
          go_simp
          refine ⟨⟨trivial, hS1, Below.refl _ _⟩, hK _ ?_⟩
          clear hK hD1 hS1 K w1
          refine relSeq_on rfl (fun K hK w1 hS1 hD1 => ?_)
          obtain ⟨d0, d1, d2, d3, d4, d5, d6, d7, d8⟩ := (HS5.out w1 hS1).1.c9
          go_simp
          refine ⟨⟨trivial, hS1, Below.refl _ _⟩, hK _ ?_⟩
          clear hK hD1 d0 d1 d2 d3 d4 d5 d6 d7 d8 hS1 K w1
          refine relSeq_on rfl (fun K hK w1 hS1 hD1 => ?_)
          obtain ⟨d0, d1, d2, d3, d4, d5, d6, d7, d8⟩ := (HS5.out w1 hS1).1.c9
          go_simp
          refine ⟨⟨trivial, hS1, Below.refl _ _⟩, hK _ ?_⟩
          clear hK hD1 d0 d1 d2 d3 d4 d5 d6 d7 d8 hS1 K w1
          refine relSeq_on rfl (fun K hK w1 hS1 hD1 => ?_)
          go_simp
          refine ⟨(D3.out w1).mono fun e w2 he => ⟨_, he.1, rfl, HSn.out _ _ hS1 he.2, he.2⟩, fun v hv => ?_⟩
          obtain ⟨_, _, hv⟩ := hv.out
          obtain rfl : v = .bool true := hv
          refine hK _ ?_
          clear hK hD1 hS1 K w1 hv
          refine relSeq_on rfl (fun K hK w1 hS1 hD1 => ?_)
          go_simp
          refine ⟨⟨trivial, hS1, Below.refl _ _⟩, hK _ ?_⟩
          clear hK hD1 hS1 K w1
          refine relSeq_nil ?_
          intro listed w9 hS2 hF2 hl2
          have HBW := Lib.hid (HSd.out w9 hS2)
          clear hF2 hl2 HSd HSn HS5 hS2
          go_wp2
          go_ret
          exact ⟨rfl, HB.out.trans (HBW.out.mono HB.out.size)⟩
        · have D1 : Hid (∀ W, Calls Try.prog 10 #[vec f, vec g] W (Ret (.bool true) W)) := fun W => by have := Covers_any f g W; rwa [hx] at this
          have D2 : Hid (∀ W, Calls Try.prog 10 #[vec g, vec f] W (Ret (.bool true) W)) := fun W => by have := Covers_any g f W; rwa [hy] at this
          clear hx hy
          unfold eqVec at hq
          obtain ⟨S, hS⟩ : ∃ S : World → Prop, S = fun Y => Below X.heap.size X Y := ⟨_, rfl⟩
          have HSd : Hid (∀ Y, S Y → Below X.heap.size X Y) := by intro Y hY; rw [hS] at hY; exact hY
          have HS5 : Hid (∀ Y, S Y → Five Y q0 q1 q2 b7 b9 f g h J M) := fun Y hY => H5.out.below (HSd.out Y hY)
          have HSn : Hid (∀ Y Y', S Y → Below Y.heap.size Y Y' → S Y') := by intro Y Y' hY hb; rw [hS] at hY ⊢; exact hY.trans (hb.mono hY.size)
          have hS0 : S X.drew := by rw [hS]; exact (Below.refl _ _).drew
          clear hS c0 c1 c2 c3 c4 c5 c6 c7 c8 d0 d1 d2 d3 d4 d5 d6 d7 d8 e0 e1 e2 e3 e4 e5 e6 e7 e8 i0 i1 i2 i3 i4 i5 i6 i7 i8 j0 j1 j2 j3 j4 j5 j6 j7 j8
          refine wp_region_held_rel 17 S (fun k u _ => match k with | 2 => u = .bool true | 6 => u = .bool true | 15 => u = .bool true | _ => True) rfl (by kernel_rfl) (by kernel_rfl) (by kernel_rfl) (fun _ _ _ _ _ h => h) hS0 ?_
          clear hS0
          simp only [List.take_succ_cons, List.take_zero, List.drop_succ_cons, List.drop_zero]
          refine relSeq_on rfl (fun K hK w1 hS1 hD1 => ?_)
          obtain ⟨d0, d1, d2, d3, d4, d5, d6, d7, d8⟩ := (HS5.out w1 hS1).1.c9
          go_simp
          refine ⟨⟨trivial, hS1, Below.refl _ _⟩, hK _ ?_⟩
          clear hK hD1 d0 d1 d2 d3 d4 d5 d6 d7 d8 hS1 K w1
          refine relSeq_on rfl (fun K hK w1 hS1 hD1 => ?_)
          obtain ⟨d0, d1, d2, d3, d4, d5, d6, d7, d8⟩ := (HS5.out w1 hS1).2.1.c9
          go_simp
          refine ⟨⟨trivial, hS1, Below.refl _ _⟩, hK _ ?_⟩
          clear hK hD1 d0 d1 d2 d3 d4 d5 d6 d7 d8 hS1 K w1
          refine relSeq_on rfl (fun K hK w1 hS1 hD1 => ?_)
          go_simp
          refine ⟨(D1.out w1).mono fun e w2 he => ⟨_, he.1, rfl, HSn.out _ _ hS1 he.2, he.2⟩, fun v hv => ?_⟩
          obtain ⟨_, _, hv⟩ := hv.out
          obtain rfl : v = .bool true := hv
          refine hK _ ?_
          clear hK hD1 hS1 K w1 hv
          refine relSeq_on rfl (fun K hK w1 hS1 hD1 => ?_)
          go_simp
          refine ⟨⟨trivial, hS1, Below.refl _ _⟩, hK _ ?_⟩
          clear hK hD1 hS1 K w1
          refine relSeq_on rfl (fun K hK w1 hS1 hD1 => ?_)
          obtain ⟨d0, d1, d2, d3, d4, d5, d6, d7, d8⟩ := (HS5.out w1 hS1).2.1.c9
          go_simp
          refine ⟨⟨trivial, hS1, Below.refl _ _⟩, hK _ ?_⟩
          clear hK hD1 d0 d1 d2 d3 d4 d5 d6 d7 d8 hS1 K w1
          refine relSeq_on rfl (fun K hK w1 hS1 hD1 => ?_)
          obtain ⟨d0, d1, d2, d3, d4, d5, d6, d7, d8⟩ := (HS5.out w1 hS1).1.c9
          go_simp
          refine ⟨⟨trivial, hS1, Below.refl _ _⟩, hK _ ?_⟩
          clear hK hD1 d0 d1 d2 d3 d4 d5 d6 d7 d8 hS1 K w1
          refine relSeq_on rfl (fun K hK w1 hS1 hD1 => ?_)
          go_simp
          refine ⟨(D2.out w1).mono fun e w2 he => ⟨_, he.1, rfl, HSn.out _ _ hS1 he.2, he.2⟩, fun v hv => ?_⟩
          obtain ⟨_, _, hv⟩ := hv.out
          obtain rfl : v = .bool true := hv
          refine hK _ ?_
          clear hK hD1 hS1 K w1 hv
          refine relSeq_on rfl (fun K hK w1 hS1 hD1 => ?_)
          go_simp
          refine ⟨⟨trivial, hS1, Below.refl _ _⟩, hK _ ?_⟩
          clear hK hD1 hS1 K w1
          refine relSeq_on rfl (fun K hK w1 hS1 hD1 => ?_)
          obtain ⟨d0, d1, d2, d3, d4, d5, d6, d7, d8⟩ := (HS5.out w1 hS1).1.c9
          go_simp
          refine ⟨⟨trivial, hS1, Below.refl _ _⟩, hK _ ?_⟩
          clear hK hD1 d0 d1 d2 d3 d4 d5 d6 d7 d8 hS1 K w1
          refine relSeq_on rfl (fun K hK w1 hS1 hD1 => ?_)
          obtain ⟨d0, d1, d2, d3, d4, d5, d6, d7, d8⟩ := (HS5.out w1 hS1).2.1.c9
          go_simp
          refine ⟨⟨trivial, hS1, Below.refl _ _⟩, hK _ ?_⟩
          clear hK hD1 d0 d1 d2 d3 d4 d5 d6 d7 d8 hS1 K w1
          refine relSeq_on rfl (fun K hK w1 hS1 hD1 => ?_)
          go_simp
          try rw [hq]
          refine ⟨⟨trivial, hS1, Below.refl _ _⟩, hK _ ?_⟩
          clear hK hD1 hS1 K w1
          refine relSeq_on rfl (fun K hK w1 hS1 hD1 => ?_)
          go_simp
          refine ⟨⟨trivial, hS1, Below.refl _ _⟩, hK _ ?_⟩
          clear hK hD1 hS1 K w1
          refine relSeq_on rfl (fun K hK w1 hS1 hD1 => ?_)
          go_simp
          refine ⟨⟨trivial, hS1, Below.refl _ _⟩, hK _ ?_⟩
          clear hK hD1 hS1 K w1
          refine relSeq_on rfl (fun K hK w1 hS1 hD1 => ?_)
          obtain ⟨d0, d1, d2, d3, d4, d5, d6, d7, d8⟩ := (HS5.out w1 hS1).1.c9
          go_simp
          refine ⟨⟨trivial, hS1, Below.refl _ _⟩, hK _ ?_⟩
          clear hK hD1 d0 d1 d2 d3 d4 d5 d6 d7 d8 hS1 K w1
          refine relSeq_on rfl (fun K hK w1 hS1 hD1 => ?_)
          obtain ⟨d0, d1, d2, d3, d4, d5, d6, d7, d8⟩ := (HS5.out w1 hS1).1.c9
          go_simp
          refine ⟨⟨trivial, hS1, Below.refl _ _⟩, hK _ ?_⟩
          clear hK hD1 d0 d1 d2 d3 d4 d5 d6 d7 d8 hS1 K w1
          refine relSeq_on rfl (fun K hK w1 hS1 hD1 => ?_)
          go_simp
          refine ⟨(D3.out w1).mono fun e w2 he => ⟨_, he.1, rfl, HSn.out _ _ hS1 he.2, he.2⟩, fun v hv => ?_⟩
          obtain ⟨_, _, hv⟩ := hv.out
          obtain rfl : v = .bool true := hv
          refine hK _ ?_
          clear hK hD1 hS1 K w1 hv
          refine relSeq_on rfl (fun K hK w1 hS1 hD1 => ?_)
          go_simp
          refine ⟨⟨trivial, hS1, Below.refl _ _⟩, hK _ ?_⟩
          clear hK hD1 hS1 K w1
          refine relSeq_nil ?_
          intro listed w9 hS2 hF2 hl2
          have HBW := Lib.hid (HSd.out w9 hS2)
          clear hF2 hl2 HSd HSn HS5 hS2
          go_wp2
          go_ret
          exact ⟨rfl, HB.out.trans (HBW.out.mono HB.out.size)⟩
      · go_wp2_with fail
        refine (Covers_any g h _).mono ?_
        rintro e X ⟨rfl, hb⟩
        replace H5 := Lib.hid (H5.out.below hb)
        replace HB := Lib.hid (HB.out.trans (hb.mono HB.out.size))
        clear hb c0 c1 c2 c3 c4 c5 c6 c7 c8 d0 d1 d2 d3 d4 d5 d6 d7 d8 e0 e1 e2 e3 e4 e5 e6 e7 e8 i0 i1 i2 i3 i4 i5 i6 i7 i8 j0 j1 j2 j3 j4 j5 j6 j7 j8
        obtain ⟨c0, c1, c2, c3, c4, c5, c6, c7, c8⟩ := H5.out.1.c9; obtain ⟨d0, d1, d2, d3, d4, d5, d6, d7, d8⟩ := H5.out.2.1.c9; obtain ⟨e0, e1, e2, e3, e4, e5, e6, e7, e8⟩ := H5.out.2.2.1.c9; obtain ⟨i0, i1, i2, i3, i4, i5, i6, i7, i8⟩ := H5.out.2.2.2.1.c9; obtain ⟨j0, j1, j2, j3, j4, j5, j6, j7, j8⟩ := H5.out.2.2.2.2.c9
        cases hv : covB g h
        · clear HM hu
          go_wp2_with fail
          clear hv
          rcases HXY.out with ⟨hx, hq⟩ | ⟨hx, hy, hq⟩ | ⟨hx, hy, hq⟩
          · have D1 : Hid (∀ W, Calls Try.prog 10 #[vec f, vec g] W (Ret (.bool false) W)) := fun W => by have := Covers_any f g W; rwa [hx] at this
            clear hx
            unfold eqVec at hq
            obtain ⟨S, hS⟩ : ∃ S : World → Prop, S = fun Y => Below X.heap.size X Y := ⟨_, rfl⟩
            have HSd : Hid (∀ Y, S Y → Below X.heap.size X Y) := by intro Y hY; rw [hS] at hY; exact hY
            have HS5 : Hid (∀ Y, S Y → Five Y q0 q1 q2 b7 b9 f g h J M) := fun Y hY => H5.out.below (HSd.out Y hY)
            have HSn : Hid (∀ Y Y', S Y → Below Y.heap.size Y Y' → S Y') := by intro Y Y' hY hb; rw [hS] at hY ⊢; exact hY.trans (hb.mono hY.size)
            have hS0 : S X.drew := by rw [hS]; exact (Below.refl _ _).drew
            clear hS c0 c1 c2 c3 c4 c5 c6 c7 c8 d0 d1 d2 d3 d4 d5 d6 d7 d8 e0 e1 e2 e3 e4 e5 e6 e7 e8 i0 i1 i2 i3 i4 i5 i6 i7 i8 j0 j1 j2 j3 j4 j5 j6 j7 j8
            refine wp_region_held_rel 17 S (fun k u _ => match k with | 2 => u = .bool false | 6 => True | 15 => u = .bool true | _ => True) rfl (by kernel_rfl) (by kernel_rfl) (by kernel_rfl) (fun _ _ _ _ _ h => h) hS0 ?_
            clear hS0
            simp only [List.take_succ_cons, List.take_zero, List.drop_succ_cons, List.drop_zero]
            refine relSeq_on rfl (fun K hK w1 hS1 hD1 => ?_)
            obtain ⟨d0, d1, d2, d3, d4, d5, d6, d7, d8⟩ := (HS5.out w1 hS1).1.c9
            go_simp
            refine ⟨⟨trivial, hS1, Below.refl _ _⟩, hK _ ?_⟩
            clear hK hD1 d0 d1 d2 d3 d4 d5 d6 d7 d8 hS1 K w1
            refine relSeq_on rfl (fun K hK w1 hS1 hD1 => ?_)
            obtain ⟨d0, d1, d2, d3, d4, d5, d6, d7, d8⟩ := (HS5.out w1 hS1).2.1.c9
            go_simp
            refine ⟨⟨trivial, hS1, Below.refl _ _⟩, hK _ ?_⟩
            clear hK hD1 d0 d1 d2 d3 d4 d5 d6 d7 d8 hS1 K w1
            refine relSeq_on rfl (fun K hK w1 hS1 hD1 => ?_)
            go_simp
            refine ⟨(D1.out w1).mono fun e w2 he => ⟨_, he.1, rfl, HSn.out _ _ hS1 he.2, he.2⟩, fun v hv => ?_⟩
            obtain ⟨_, _, hv⟩ := hv.out
            obtain rfl : v = .bool false := hv
            refine hK _ ?_
            clear hK hD1 hS1 K w1 hv
            refine relSeq_on rfl (fun K hK w1 hS1 hD1 => ?_)
            go_simp
            refine ⟨⟨trivial, hS1, Below.refl _ _⟩, hK _ ?_⟩
            clear hK hD1 hS1 K w1
            refine relSeq_off rfl (fun _ _ => trivial) (fun K hK => ?_)
            go_simp
            refine hK _ ?_
            clear hK K
            refine relSeq_off rfl (fun _ _ => trivial) (fun K hK => ?_)
            go_simp
            refine hK _ ?_
            clear hK K
            refine relSeq_off rfl (fun _ _ => trivial) (fun K hK => ?_)
            go_simp
            refine hK _ ?_
            clear hK K
            refine relSeq_on rfl (fun K hK w1 hS1 hD1 => ?_)
            go_simp
            refine ⟨⟨trivial, hS1, Below.refl _ _⟩, hK _ ?_⟩
            clear hK hD1 hS1 K w1
            refine relSeq_on rfl (fun K hK w1 hS1 hD1 => ?_)
            obtain ⟨d0, d1, d2, d3, d4, d5, d6, d7, d8⟩ := (HS5.out w1 hS1).1.c9
            go_simp
            refine ⟨⟨trivial, hS1, Below.refl _ _⟩, hK _ ?_⟩
            clear hK hD1 d0 d1 d2 d3 d4 d5 d6 d7 d8 hS1 K w1
            refine relSeq_on rfl (fun K hK w1 hS1 hD1 => ?_)
            obtain ⟨d0, d1, d2, d3, d4, d5, d6, d7, d8⟩ := (HS5.out w1 hS1).2.1.c9
            go_simp
            refine ⟨⟨trivial, hS1, Below.refl _ _⟩, hK _ ?_⟩
            clear hK hD1 d0 d1 d2 d3 d4 d5 d6 d7 d8 hS1 K w1
            refine relSeq_on rfl (fun K hK w1 hS1 hD1 => ?_)
            go_simp
            try rw [hq]
            refine ⟨⟨trivial, hS1, Below.refl _ _⟩, hK _ ?_⟩
            clear hK hD1 hS1 K w1
            refine relSeq_on rfl (fun K hK w1 hS1 hD1 => ?_)
            go_simp
            refine ⟨⟨trivial, hS1, Below.refl _ _⟩, hK _ ?_⟩
            clear hK hD1 hS1 K w1
            refine relSeq_on rfl (fun K hK w1 hS1 hD1 => ?_)
            go_simp
            refine ⟨⟨trivial, hS1, Below.refl _ _⟩, hK _ ?_⟩
            clear hK hD1 hS1 K w1
            refine relSeq_on rfl (fun K hK w1 hS1 hD1 => ?_)
            obtain ⟨d0, d1, d2, d3, d4, d5, d6, d7, d8⟩ := (HS5.out w1 hS1).1.c9
            go_simp
            refine ⟨⟨trivial, hS1, Below.refl _ _⟩, hK _ ?_⟩
            clear hK hD1 d0 d1 d2 d3 d4 d5 d6 d7 d8 hS1 K w1
            refine relSeq_on rfl (fun K hK w1 hS1 hD1 => ?_)
            obtain ⟨d0, d1, d2, d3, d4, d5, d6, d7, d8⟩ := (HS5.out w1 hS1).1.c9
            go_simp
            refine ⟨⟨trivial, hS1, Below.refl _ _⟩, hK _ ?_⟩
            clear hK hD1 d0 d1 d2 d3 d4 d5 d6 d7 d8 hS1 K w1
            refine relSeq_on rfl (fun K hK w1 hS1 hD1 => ?_)
            go_simp
            refine ⟨(D3.out w1).mono fun e w2 he => ⟨_, he.1, rfl, HSn.out _ _ hS1 he.2, he.2⟩, fun v hv => ?_⟩
            obtain ⟨_, _, hv⟩ := hv.out
            obtain rfl : v = .bool true := hv
            refine hK _ ?_
            clear hK hD1 hS1 K w1 hv
            refine relSeq_on rfl (fun K hK w1 hS1 hD1 => ?_)
            go_simp
            refine ⟨⟨trivial, hS1, Below.refl _ _⟩, hK _ ?_⟩
            clear hK hD1 hS1 K w1
            refine relSeq_nil ?_
            intro listed w9 hS2 hF2 hl2
            have HBW := Lib.hid (HSd.out w9 hS2)
            clear hF2 hl2 HSd HSn HS5 hS2
            go_wp2
            go_ret
            exact ⟨rfl, HB.out.trans (HBW.out.mono HB.out.size)⟩
          · have D1 : Hid (∀ W, Calls Try.prog 10 #[vec f, vec g] W (Ret (.bool true) W)) := fun W => by have := Covers_any f g W; rwa [hx] at this
            have D2 : Hid (∀ W, Calls Try.prog 10 #[vec g, vec f] W (Ret (.bool false) W)) := fun W => by have := Covers_any g f W; rwa [hy] at this
            clear hx hy
            unfold eqVec at hq
            obtain ⟨S, hS⟩ : ∃ S : World → Prop, S = fun Y => Below X.heap.size X Y := ⟨_, rfl⟩
            have HSd : Hid (∀ Y, S Y → Below X.heap.size X Y) := by intro Y hY; rw [hS] at hY; exact hY
            have HS5 : Hid (∀ Y, S Y → Five Y q0 q1 q2 b7 b9 f g h J M) := fun Y hY => H5.out.below (HSd.out Y hY)
            have HSn : Hid (∀ Y Y', S Y → Below Y.heap.size Y Y' → S Y') := by intro Y Y' hY hb; rw [hS] at hY ⊢; exact hY.trans (hb.mono hY.size)
            have hS0 : S X.drew := by rw [hS]; exact (Below.refl _ _).drew
            clear hS c0 c1 c2 c3 c4 c5 c6 c7 c8 d0 d1 d2 d3 d4 d5 d6 d7 d8 e0 e1 e2 e3 e4 e5 e6 e7 e8 i0 i1 i2 i3 i4 i5 i6 i7 i8 j0 j1 j2 j3 j4 j5 j6 j7 j8
            refine wp_region_held_rel 17 S (fun k u _ => match k with | 2 => u = .bool true | 6 => u = .bool false | 15 => u = .bool true | _ => True) rfl (by kernel_rfl) (by kernel_rfl) (by kernel_rfl) (fun _ _ _ _ _ h => h) hS0 ?_
            clear hS0
            simp only [List.take_succ_cons, List.take_zero, List.drop_succ_cons, List.drop_zero]
            refine relSeq_on rfl (fun K hK w1 hS1 hD1 => ?_)
            obtain ⟨d0, d1, d2, d3, d4, d5, d6, d7, d8⟩ := (HS5.out w1 hS1).1.c9
            go_simp
            refine ⟨⟨trivial, hS1, Below.refl _ _⟩, hK _ ?_⟩
            clear hK hD1 d0 d1 d2 d3 d4 d5 d6 d7 d8 hS1 K w1
            refine relSeq_on rfl (fun K hK w1 hS1 hD1 => ?_)
            obtain ⟨d0, d1, d2, d3, d4, d5, d6, d7, d8⟩ := (HS5.out w1 hS1).2.1.c9
            go_simp
            refine ⟨⟨trivial, hS1, Below.refl _ _⟩, hK _ ?_⟩
            clear hK hD1 d0 d1 d2 d3 d4 d5 d6 d7 d8 hS1 K w1
            refine relSeq_on rfl (fun K hK w1 hS1 hD1 => ?_)
            go_simp
            refine ⟨(D1.out w1).mono fun e w2 he => ⟨_, he.1, rfl, HSn.out _ _ hS1 he.2, he.2⟩, fun v hv => ?_⟩
            obtain ⟨_, _, hv⟩ := hv.out
            obtain rfl : v = .bool true := hv
            refine hK _ ?_
            clear hK hD1 hS1 K w1 hv
            refine relSeq_on rfl (fun K hK w1 hS1 hD1 => ?_)
            go_simp
            refine ⟨⟨trivial, hS1, Below.refl _ _⟩, hK _ ?_⟩
            clear hK hD1 hS1 K w1
            refine relSeq_on rfl (fun K hK w1 hS1 hD1 => ?_)
            obtain ⟨d0, d1, d2, d3, d4, d5, d6, d7, d8⟩ := (HS5.out w1 hS1).2.1.c9
            go_simp
            refine ⟨⟨trivial, hS1, Below.refl _ _⟩, hK _ ?_⟩
            clear hK hD1 d0 d1 d2 d3 d4 d5 d6 d7 d8 hS1 K w1
            refine relSeq_on rfl (fun K hK w1 hS1 hD1 => ?_)
            obtain ⟨d0, d1, d2, d3, d4, d5, d6, d7, d8⟩ := (HS5.out w1 hS1).1.c9
            go_simp
            refine ⟨⟨trivial, hS1, Below.refl _ _⟩, hK _ ?_⟩
            clear hK hD1 d0 d1 d2 d3 d4 d5 d6 d7 d8 hS1 K w1
            refine relSeq_on rfl (fun K hK w1 hS1 hD1 => ?_)
            go_simp
            refine ⟨(D2.out w1).mono fun e w2 he => ⟨_, he.1, rfl, HSn.out _ _ hS1 he.2, he.2⟩, fun v hv => ?_⟩
            obtain ⟨_, _, hv⟩ := hv.out
            obtain rfl : v = .bool false := hv
            refine hK _ ?_
            clear hK hD1 hS1 K w1 hv
            refine relSeq_on rfl (fun K hK w1 hS1 hD1 => ?_)
            go_simp
            refine ⟨⟨trivial, hS1, Below.refl _ _⟩, hK _ ?_⟩
            clear hK hD1 hS1 K w1
            refine relSeq_on rfl (fun K hK w1 hS1 hD1 => ?_)
            obtain ⟨d0, d1, d2, d3, d4, d5, d6, d7, d8⟩ := (HS5.out w1 hS1).1.c9
            go_simp
            refine ⟨⟨trivial, hS1, Below.refl _ _⟩, hK _ ?_⟩
            clear hK hD1 d0 d1 d2 d3 d4 d5 d6 d7 d8 hS1 K w1
            refine relSeq_on rfl (fun K hK w1 hS1 hD1 => ?_)
            obtain ⟨d0, d1, d2, d3, d4, d5, d6, d7, d8⟩ := (HS5.out w1 hS1).2.1.c9
            go_simp
            refine ⟨⟨trivial, hS1, Below.refl _ _⟩, hK _ ?_⟩
            clear hK hD1 d0 d1 d2 d3 d4 d5 d6 d7 d8 hS1 K w1
            refine relSeq_on rfl (fun K hK w1 hS1 hD1 => ?_)
            go_simp
            try rw [hq]
            refine ⟨⟨trivial, hS1, Below.refl _ _⟩, hK _ ?_⟩
            clear hK hD1 hS1 K w1
            refine relSeq_on rfl (fun K hK w1 hS1 hD1 => ?_)
            go_simp
            refine ⟨⟨trivial, hS1, Below.refl _ _⟩, hK _ ?_⟩
            clear hK hD1 hS1 K w1
            refine relSeq_on rfl (fun K hK w1 hS1 hD1 => ?_)
            go_simp
            refine ⟨⟨trivial, hS1, Below.refl _ _⟩, hK _ ?_⟩
            clear hK hD1 hS1 K w1
            refine relSeq_on rfl (fun K hK w1 hS1 hD1 => ?_)
            obtain ⟨d0, d1, d2, d3, d4, d5, d6, d7, d8⟩ := (HS5.out w1 hS1).1.c9
            go_simp
            refine ⟨⟨trivial, hS1, Below.refl _ _⟩, hK _ ?_⟩
            clear hK hD1 d0 d1 d2 d3 d4 d5 d6 d7 d8 hS1 K w1
            refine relSeq_on rfl (fun K hK w1 hS1 hD1 => ?_)
            obtain ⟨d0, d1, d2, d3, d4, d5, d6, d7, d8⟩ := (HS5.out w1 hS1).1.c9
            go_simp
            refine ⟨⟨trivial, hS1, Below.refl _ _⟩, hK _ ?_⟩
            clear hK hD1 d0 d1 d2 d3 d4 d5 d6 d7 d8 hS1 K w1
            refine relSeq_on rfl (fun K hK w1 hS1 hD1 => ?_)
            go_simp
            refine ⟨(D3.out w1).mono fun e w2 he => ⟨_, he.1, rfl, HSn.out _ _ hS1 he.2, he.2⟩, fun v hv => ?_⟩
            obtain ⟨_, _, hv⟩ := hv.out
            obtain rfl : v = .bool true := hv
            refine hK _ ?_
            clear hK hD1 hS1 K w1 hv
            refine relSeq_on rfl (fun K hK w1 hS1 hD1 => ?_)
            go_simp
            refine ⟨⟨trivial, hS1, Below.refl _ _⟩, hK _ ?_⟩
            clear hK hD1 hS1 K w1
            refine relSeq_nil ?_
            intro listed w9 hS2 hF2 hl2
            have HBW := Lib.hid (HSd.out w9 hS2)
            clear hF2 hl2 HSd HSn HS5 hS2
            go_wp2
            go_ret
            exact ⟨rfl, HB.out.trans (HBW.out.mono HB.out.size)⟩
          · have D1 : Hid (∀ W, Calls Try.prog 10 #[vec f, vec g] W (Ret (.bool true) W)) := fun W => by have := Covers_any f g W; rwa [hx] at this
            have D2 : Hid (∀ W, Calls Try.prog 10 #[vec g, vec f] W (Ret (.bool true) W)) := fun W => by have := Covers_any g f W; rwa [hy] at this
            clear hx hy
            unfold eqVec at hq
            obtain ⟨S, hS⟩ : ∃ S : World → Prop, S = fun Y => Below X.heap.size X Y := ⟨_, rfl⟩
            have HSd : Hid (∀ Y, S Y → Below X.heap.size X Y) := by intro Y hY; rw [hS] at hY; exact hY
            have HS5 : Hid (∀ Y, S Y → Five Y q0 q1 q2 b7 b9 f g h J M) := fun Y hY => H5.out.below (HSd.out Y hY)
            have HSn : Hid (∀ Y Y', S Y → Below Y.heap.size Y Y' → S Y') := by intro Y Y' hY hb; rw [hS] at hY ⊢; exact hY.trans (hb.mono hY.size)
            have hS0 : S X.drew := by rw [hS]; exact (Below.refl _ _).drew
            clear hS c0 c1 c2 c3 c4 c5 c6 c7 c8 d0 d1 d2 d3 d4 d5 d6 d7 d8 e0 e1 e2 e3 e4 e5 e6 e7 e8 i0 i1 i2 i3 i4 i5 i6 i7 i8 j0 j1 j2 j3 j4 j5 j6 j7 j8
            refine wp_region_held_rel 17 S (fun k u _ => match k with | 2 => u = .bool true | 6 => u = .bool true | 15 => u = .bool true | _ => True) rfl (by kernel_rfl) (by kernel_rfl) (by kernel_rfl) (fun _ _ _ _ _ h => h) hS0 ?_
            clear hS0
            simp only [List.take_succ_cons, List.take_zero, List.drop_succ_cons, List.drop_zero]
            refine relSeq_on rfl (fun K hK w1 hS1 hD1 => ?_)
            obtain ⟨d0, d1, d2, d3, d4, d5, d6, d7, d8⟩ := (HS5.out w1 hS1).1.c9
            go_simp
            refine ⟨⟨trivial, hS1, Below.refl _ _⟩, hK _ ?_⟩
            clear hK hD1 d0 d1 d2 d3 d4 d5 d6 d7 d8 hS1 K w1
            refine relSeq_on rfl (fun K hK w1 hS1 hD1 => ?_)
            obtain ⟨d0, d1, d2, d3, d4, d5, d6, d7, d8⟩ := (HS5.out w1 hS1).2.1.c9
            go_simp
            refine ⟨⟨trivial, hS1, Below.refl _ _⟩, hK _ ?_⟩
            clear hK hD1 d0 d1 d2 d3 d4 d5 d6 d7 d8 hS1 K w1
            refine relSeq_on rfl (fun K hK w1 hS1 hD1 => ?_)
            go_simp
            refine ⟨(D1.out w1).mono fun e w2 he => ⟨_, he.1, rfl, HSn.out _ _ hS1 he.2, he.2⟩, fun v hv => ?_⟩
            obtain ⟨_, _, hv⟩ := hv.out
            obtain rfl : v = .bool true := hv
            refine hK _ ?_
            clear hK hD1 hS1 K w1 hv
            refine relSeq_on rfl (fun K hK w1 hS1 hD1 => ?_)
            go_simp
            refine ⟨⟨trivial, hS1, Below.refl _ _⟩, hK _ ?_⟩
            clear hK hD1 hS1 K w1
            refine relSeq_on rfl (fun K hK w1 hS1 hD1 => ?_)
            obtain ⟨d0, d1, d2, d3, d4, d5, d6, d7, d8⟩ := (HS5.out w1 hS1).2.1.c9
            go_simp
            refine ⟨⟨trivial, hS1, Below.refl _ _⟩, hK _ ?_⟩
            clear hK hD1 d0 d1 d2 d3 d4 d5 d6 d7 d8 hS1 K w1
            refine relSeq_on rfl (fun K hK w1 hS1 hD1 => ?_)
            obtain ⟨d0, d1, d2, d3, d4, d5, d6, d7, d8⟩ := (HS5.out w1 hS1).1.c9
            go_simp
            refine ⟨⟨trivial, hS1, Below.refl _ _⟩, hK _ ?_⟩
            clear hK hD1 d0 d1 d2 d3 d4 d5 d6 d7 d8 hS1 K w1
            refine relSeq_on rfl (fun K hK w1 hS1 hD1 => ?_)
            go_simp
            refine ⟨(D2.out w1).mono fun e w2 he => ⟨_, he.1, rfl, HSn.out _ _ hS1 he.2, he.2⟩, fun v hv => ?_⟩
            obtain ⟨_, _, hv⟩ := hv.out
            obtain rfl : v = .bool true := hv
            refine hK _ ?_
            clear hK hD1 hS1 K w1 hv
            refine relSeq_on rfl (fun K hK w1 hS1 hD1 => ?_)
            go_simp
            refine ⟨⟨trivial, hS1, Below.refl _ _⟩, hK _ ?_⟩
            clear hK hD1 hS1 K w1
            refine relSeq_on rfl (fun K hK w1 hS1 hD1 => ?_)
            obtain ⟨d0, d1, d2, d3, d4, d5, d6, d7, d8⟩ := (HS5.out w1 hS1).1.c9
            go_simp
            refine ⟨⟨trivial, hS1, Below.refl _ _⟩, hK _ ?_⟩
            clear hK hD1 d0 d1 d2 d3 d4 d5 d6 d7 d8 hS1 K w1
            refine relSeq_on rfl (fun K hK w1 hS1 hD1 => ?_)
            obtain ⟨d0, d1, d2, d3, d4, d5, d6, d7, d8⟩ := (HS5.out w1 hS1).2.1.c9
            go_simp
            refine ⟨⟨trivial, hS1, Below.refl _ _⟩, hK _ ?_⟩
            clear hK hD1 d0 d1 d2 d3 d4 d5 d6 d7 d8 hS1 K w1
            refine relSeq_on rfl (fun K hK w1 hS1 hD1 => ?_)
            go_simp
            try rw [hq]
            refine ⟨⟨trivial, hS1, Below.refl _ _⟩, hK _ ?_⟩
            clear hK hD1 hS1 K w1
            refine relSeq_on rfl (fun K hK w1 hS1 hD1 => ?_)
            go_simp
            refine ⟨⟨trivial, hS1, Below.refl _ _⟩, hK _ ?_⟩
            clear hK hD1 hS1 K w1
            refine relSeq_on rfl (fun K hK w1 hS1 hD1 => ?_)
            go_simp
            refine ⟨⟨trivial, hS1, Below.refl _ _⟩, hK _ ?_⟩
            clear hK hD1 hS1 K w1
            refine relSeq_on rfl (fun K hK w1 hS1 hD1 => ?_)
            obtain ⟨d0, d1, d2, d3, d4, d5, d6, d7, d8⟩ := (HS5.out w1 hS1).1.c9
            go_simp
            refine ⟨⟨trivial, hS1, Below.refl _ _⟩, hK _ ?_⟩
            clear hK hD1 d0 d1 d2 d3 d4 d5 d6 d7 d8 hS1 K w1
            refine relSeq_on rfl (fun K hK w1 hS1 hD1 => ?_)
            obtain ⟨d0, d1, d2, d3, d4, d5, d6, d7, d8⟩ := (HS5.out w1 hS1).1.c9
            go_simp
            refine ⟨⟨trivial, hS1, Below.refl _ _⟩, hK _ ?_⟩
            clear hK hD1 d0 d1 d2 d3 d4 d5 d6 d7 d8 hS1 K w1
            refine relSeq_on rfl (fun K hK w1 hS1 hD1 => ?_)
            go_simp
            refine ⟨(D3.out w1).mono fun e w2 he => ⟨_, he.1, rfl, HSn.out _ _ hS1 he.2, he.2⟩, fun v hv => ?_⟩
            obtain ⟨_, _, hv⟩ := hv.out
            obtain rfl : v = .bool true := hv
            refine hK _ ?_
            clear hK hD1 hS1 K w1 hv
            refine relSeq_on rfl (fun K hK w1 hS1 hD1 => ?_)
            go_simp
            refine ⟨⟨trivial, hS1, Below.refl _ _⟩, hK _ ?_⟩
            clear hK hD1 hS1 K w1
            refine relSeq_nil ?_
            intro listed w9 hS2 hF2 hl2
            have HBW := Lib.hid (HSd.out w9 hS2)
            clear hF2 hl2 HSd HSn HS5 hS2
            go_wp2
            go_ret
            exact ⟨rfl, HB.out.trans (HBW.out.mono HB.out.size)⟩
        · have C6 : Hid (∀ W, Calls Try.prog 10 #[vec M, vec h] W (Ret (.bool true) W)) := fun W => by have := Covers_any M h W; rwa [HM.out.2.2 hu hv] at this
          clear HM hu
          go_wp2_with fail
          clear hv
          refine (C6.out _).mono ?_
          rintro e X ⟨rfl, hb⟩
          replace H5 := Lib.hid (H5.out.below hb)
          replace HB := Lib.hid (HB.out.trans (hb.mono HB.out.size))
          clear hb c0 c1 c2 c3 c4 c5 c6 c7 c8 d0 d1 d2 d3 d4 d5 d6 d7 d8 e0 e1 e2 e3 e4 e5 e6 e7 e8 i0 i1 i2 i3 i4 i5 i6 i7 i8 j0 j1 j2 j3 j4 j5 j6 j7 j8
          obtain ⟨c0, c1, c2, c3, c4, c5, c6, c7, c8⟩ := H5.out.1.c9; obtain ⟨d0, d1, d2, d3, d4, d5, d6, d7, d8⟩ := H5.out.2.1.c9; obtain ⟨e0, e1, e2, e3, e4, e5, e6, e7, e8⟩ := H5.out.2.2.1.c9; obtain ⟨i0, i1, i2, i3, i4, i5, i6, i7, i8⟩ := H5.out.2.2.2.1.c9; obtain ⟨j0, j1, j2, j3, j4, j5, j6, j7, j8⟩ := H5.out.2.2.2.2.c9
          go_wp2_with fail
          rcases HXY.out with ⟨hx, hq⟩ | ⟨hx, hy, hq⟩ | ⟨hx, hy, hq⟩
          · have D1 : Hid (∀ W, Calls Try.prog 10 #[vec f, vec g] W (Ret (.bool false) W)) := fun W => by have := Covers_any f g W; rwa [hx] at this
            clear hx
            unfold eqVec at hq
            obtain ⟨S, hS⟩ : ∃ S : World → Prop, S = fun Y => Below X.heap.size X Y := ⟨_, rfl⟩
            have HSd : Hid (∀ Y, S Y → Below X.heap.size X Y) := by intro Y hY; rw [hS] at hY; exact hY
            have HS5 : Hid (∀ Y, S Y → Five Y q0 q1 q2 b7 b9 f g h J M) := fun Y hY => H5.out.below (HSd.out Y hY)
            have HSn : Hid (∀ Y Y', S Y → Below Y.heap.size Y Y' → S Y') := by intro Y Y' hY hb; rw [hS] at hY ⊢; exact hY.trans (hb.mono hY.size)
            have hS0 : S X.drew := by rw [hS]; exact (Below.refl _ _).drew
            clear hS c0 c1 c2 c3 c4 c5 c6 c7 c8 d0 d1 d2 d3 d4 d5 d6 d7 d8 e0 e1 e2 e3 e4 e5 e6 e7 e8 i0 i1 i2 i3 i4 i5 i6 i7 i8 j0 j1 j2 j3 j4 j5 j6 j7 j8
            refine wp_region_held_rel 17 S (fun k u _ => match k with | 2 => u = .bool false | 6 => True | 15 => u = .bool true | _ => True) rfl (by kernel_rfl) (by kernel_rfl) (by kernel_rfl) (fun _ _ _ _ _ h => h) hS0 ?_
            clear hS0
            simp only [List.take_succ_cons, List.take_zero, List.drop_succ_cons, List.drop_zero]
            refine relSeq_on rfl (fun K hK w1 hS1 hD1 => ?_)
            obtain ⟨d0, d1, d2, d3, d4, d5, d6, d7, d8⟩ := (HS5.out w1 hS1).1.c9
            go_simp
            refine ⟨⟨trivial, hS1, Below.refl _ _⟩, hK _ ?_⟩
            clear hK hD1 d0 d1 d2 d3 d4 d5 d6 d7 d8 hS1 K w1
            refine relSeq_on rfl (fun K hK w1 hS1 hD1 => ?_)
            obtain ⟨d0, d1, d2, d3, d4, d5, d6, d7, d8⟩ := (HS5.out w1 hS1).2.1.c9
            go_simp
            refine ⟨⟨trivial, hS1, Below.refl _ _⟩, hK _ ?_⟩
            clear hK hD1 d0 d1 d2 d3 d4 d5 d6 d7 d8 hS1 K w1
            refine relSeq_on rfl (fun K hK w1 hS1 hD1 => ?_)
            go_simp
            refine ⟨(D1.out w1).mono fun e w2 he => ⟨_, he.1, rfl, HSn.out _ _ hS1 he.2, he.2⟩, fun v hv => ?_⟩
            obtain ⟨_, _, hv⟩ := hv.out
            obtain rfl : v = .bool false := hv
            refine hK _ ?_
            clear hK hD1 hS1 K w1 hv
            refine relSeq_on rfl (fun K hK w1 hS1 hD1 => ?_)
            go_simp
            refine ⟨⟨trivial, hS1, Below.refl _ _⟩, hK _ ?_⟩
            clear hK hD1 hS1 K w1
            refine relSeq_off rfl (fun _ _ => trivial) (fun K hK => ?_)
            go_simp
            refine hK _ ?_
            clear hK K
            refine relSeq_off rfl (fun _ _ => trivial) (fun K hK => ?_)
            go_simp
            refine hK _ ?_
            clear hK K
            refine relSeq_off rfl (fun _ _ => trivial) (fun K hK => ?_)
            go_simp
            refine hK _ ?_
            clear hK K
            refine relSeq_on rfl (fun K hK w1 hS1 hD1 => ?_)
            go_simp
            refine ⟨⟨trivial, hS1, Below.refl _ _⟩, hK _ ?_⟩
            clear hK hD1 hS1 K w1
            refine relSeq_on rfl (fun K hK w1 hS1 hD1 => ?_)
            obtain ⟨d0, d1, d2, d3, d4, d5, d6, d7, d8⟩ := (HS5.out w1 hS1).1.c9
            go_simp
            refine ⟨⟨trivial, hS1, Below.refl _ _⟩, hK _ ?_⟩
            clear hK hD1 d0 d1 d2 d3 d4 d5 d6 d7 d8 hS1 K w1
            refine relSeq_on rfl (fun K hK w1 hS1 hD1 => ?_)
            obtain ⟨d0, d1, d2, d3, d4, d5, d6, d7, d8⟩ := (HS5.out w1 hS1).2.1.c9
            go_simp
            refine ⟨⟨trivial, hS1, Below.refl _ _⟩, hK _ ?_⟩
            clear hK hD1 d0 d1 d2 d3 d4 d5 d6 d7 d8 hS1 K w1
            refine relSeq_on rfl (fun K hK w1 hS1 hD1 => ?_)
            go_simp
            try rw [hq]
            refine ⟨⟨trivial, hS1, Below.refl _ _⟩, hK _ ?_⟩
            clear hK hD1 hS1 K w1
            refine relSeq_on rfl (fun K hK w1 hS1 hD1 => ?_)
            go_simp
            refine ⟨⟨trivial, hS1, Below.refl _ _⟩, hK _ ?_⟩
            clear hK hD1 hS1 K w1
            refine relSeq_on rfl (fun K hK w1 hS1 hD1 => ?_)
            go_simp
            refine ⟨⟨trivial, hS1, Below.refl _ _⟩, hK _ ?_⟩
            clear hK hD1 hS1 K w1
            refine relSeq_on rfl (fun K hK w1 hS1 hD1 => ?_)
            obtain ⟨d0, d1, d2, d3, d4, d5, d6, d7, d8⟩ := (HS5.out w1 hS1).1.c9
            go_simp
            refine ⟨⟨trivial, hS1, Below.refl _ _⟩, hK _ ?_⟩
            clear hK hD1 d0 d1 d2 d3 d4 d5 d6 d7 d8 hS1 K w1
            refine relSeq_on rfl (fun K hK w1 hS1 hD1 => ?_)
            obtain ⟨d0, d1, d2, d3, d4, d5, d6, d7, d8⟩ := (HS5.out w1 hS1).1.c9
            go_simp
            refine ⟨⟨trivial, hS1, Below.refl _ _⟩, hK _ ?_⟩
            clear hK hD1 d0 d1 d2 d3 d4 d5 d6 d7 d8 hS1 K w1
            refine relSeq_on rfl (fun K hK w1 hS1 hD1 => ?_)
            go_simp
            refine ⟨(D3.out w1).mono fun e w2 he => ⟨_, he.1, rfl, HSn.out _ _ hS1 he.2, he.2⟩, fun v hv => ?_⟩
            obtain ⟨_, _, hv⟩ := hv.out
            obtain rfl : v = .bool true := hv
            refine hK _ ?_
            clear hK hD1 hS1 K w1 hv
            refine relSeq_on rfl (fun K hK w1 hS1 hD1 => ?_)
            go_simp
            refine ⟨⟨trivial, hS1, Below.refl _ _⟩, hK _ ?_⟩
            clear hK hD1 hS1 K w1
            refine relSeq_nil ?_
            intro listed w9 hS2 hF2 hl2
            have HBW := Lib.hid (HSd.out w9 hS2)
            clear hF2 hl2 HSd HSn HS5 hS2
            go_wp2
            go_ret
            exact ⟨rfl, HB.out.trans (HBW.out.mono HB.out.size)⟩
          · have D1 : Hid (∀ W, Calls Try.prog 10 #[vec f, vec g] W (Ret (.bool true) W)) := fun W => by have := Covers_any f g W; rwa [hx] at this
            have D2 : Hid (∀ W, Calls Try.prog 10 #[vec g, vec f] W (Ret (.bool false) W)) := fun W => by have := Covers_any g f W; rwa [hy] at this
            clear hx hy
            unfold eqVec at hq
            obtain ⟨S, hS⟩ : ∃ S : World → Prop, S = fun Y => Below X.heap.size X Y := ⟨_, rfl⟩
            have HSd : Hid (∀ Y, S Y → Below X.heap.size X Y) := by intro Y hY; rw [hS] at hY; exact hY
            have HS5 : Hid (∀ Y, S Y → Five Y q0 q1 q2 b7 b9 f g h J M) := fun Y hY => H5.out.below (HSd.out Y hY)
            have HSn : Hid (∀ Y Y', S Y → Below Y.heap.size Y Y' → S Y') := by intro Y Y' hY hb; rw [hS] at hY ⊢; exact hY.trans (hb.mono hY.size)
            have hS0 : S X.drew := by rw [hS]; exact (Below.refl _ _).drew
            clear hS c0 c1 c2 c3 c4 c5 c6 c7 c8 d0 d1 d2 d3 d4 d5 d6 d7 d8 e0 e1 e2 e3 e4 e5 e6 e7 e8 i0 i1 i2 i3 i4 i5 i6 i7 i8 j0 j1 j2 j3 j4 j5 j6 j7 j8
            refine wp_region_held_rel 17 S (fun k u _ => match k with | 2 => u = .bool true | 6 => u = .bool false | 15 => u = .bool true | _ => True) rfl (by kernel_rfl) (by kernel_rfl) (by kernel_rfl) (fun _ _ _ _ _ h => h) hS0 ?_
            clear hS0
            simp only [List.take_succ_cons, List.take_zero, List.drop_succ_cons, List.drop_zero]
            refine relSeq_on rfl (fun K hK w1 hS1 hD1 => ?_)
            obtain ⟨d0, d1, d2, d3, d4, d5, d6, d7, d8⟩ := (HS5.out w1 hS1).1.c9
            go_simp
            refine ⟨⟨trivial, hS1, Below.refl _ _⟩, hK _ ?_⟩
            clear hK hD1 d0 d1 d2 d3 d4 d5 d6 d7 d8 hS1 K w1
            refine relSeq_on rfl (fun K hK w1 hS1 hD1 => ?_)
            obtain ⟨d0, d1, d2, d3, d4, d5, d6, d7, d8⟩ := (HS5.out w1 hS1).2.1.c9
            go_simp
            refine ⟨⟨trivial, hS1, Below.refl _ _⟩, hK _ ?_⟩
            clear hK hD1 d0 d1 d2 d3 d4 d5 d6 d7 d8 hS1 K w1
            refine relSeq_on rfl (fun K hK w1 hS1 hD1 => ?_)
            go_simp
            refine ⟨(D1.out w1).mono fun e w2 he => ⟨_, he.1, rfl, HSn.out _ _ hS1 he.2, he.2⟩, fun v hv => ?_⟩
            obtain ⟨_, _, hv⟩ := hv.out
            obtain rfl : v = .bool true := hv
            refine hK _ ?_
            clear hK hD1 hS1 K w1 hv
            refine relSeq_on rfl (fun K hK w1 hS1 hD1 => ?_)
            go_simp
            refine ⟨⟨trivial, hS1, Below.refl _ _⟩, hK _ ?_⟩
            clear hK hD1 hS1 K w1
            refine relSeq_on rfl (fun K hK w1 hS1 hD1 => ?_)
            obtain ⟨d0, d1, d2, d3, d4, d5, d6, d7, d8⟩ := (HS5.out w1 hS1).2.1.c9
            go_simp
            refine ⟨⟨trivial, hS1, Below.refl _ _⟩, hK _ ?_⟩
            clear hK hD1 d0 d1 d2 d3 d4 d5 d6 d7 d8 hS1 K w1
            refine relSeq_on rfl (fun K hK w1 hS1 hD1 => ?_)
            obtain ⟨d0, d1, d2, d3, d4, d5, d6, d7, d8⟩ := (HS5.out w1 hS1).1.c9
            go_simp
            refine ⟨⟨trivial, hS1, Below.refl _ _⟩, hK _ ?_⟩
            clear hK hD1 d0 d1 d2 d3 d4 d5 d6 d7 d8 hS1 K w1
            refine relSeq_on rfl (fun K hK w1 hS1 hD1 => ?_)
            go_simp
            refine ⟨(D2.out w1).mono fun e w2 he => ⟨_, he.1, rfl, HSn.out _ _ hS1 he.2, he.2⟩, fun v hv => ?_⟩
            obtain ⟨_, _, hv⟩ := hv.out
            obtain rfl : v = .bool false := hv
            refine hK _ ?_
            clear hK hD1 hS1 K w1 hv
            refine relSeq_on rfl (fun K hK w1 hS1 hD1 => ?_)
            go_simp
            refine ⟨⟨trivial, hS1, Below.refl _ _⟩, hK _ ?_⟩
            clear hK hD1 hS1 K w1
            refine relSeq_on rfl (fun K hK w1 hS1 hD1 => ?_)
            obtain ⟨d0, d1, d2, d3, d4, d5, d6, d7, d8⟩ := (HS5.out w1 hS1).1.c9
            go_simp
            refine ⟨⟨trivial, hS1, Below.refl _ _⟩, hK _ ?_⟩
            clear hK hD1 d0 d1 d2 d3 d4 d5 d6 d7 d8 hS1 K w1
            refine relSeq_on rfl (fun K hK w1 hS1 hD1 => ?_)
            obtain ⟨d0, d1, d2, d3, d4, d5, d6, d7, d8⟩ := (HS5.out w1 hS1).2.1.c9
            go_simp
            refine ⟨⟨trivial, hS1, Below.refl _ _⟩, hK _ ?_⟩
            clear hK hD1 d0 d1 d2 d3 d4 d5 d6 d7 d8 hS1 K w1
            refine relSeq_on rfl (fun K hK w1 hS1 hD1 => ?_)
            go_simp
            try rw [hq]
            refine ⟨⟨trivial, hS1, Below.refl _ _⟩, hK _ ?_⟩
            clear hK hD1 hS1 K w1
            refine relSeq_on rfl (fun K hK w1 hS1 hD1 => ?_)
            go_simp
            refine ⟨⟨trivial, hS1, Below.refl _ _⟩, hK _ ?_⟩
            clear hK hD1 hS1 K w1
            refine relSeq_on rfl (fun K hK w1 hS1 hD1 => ?_)
            go_simp
            refine ⟨⟨trivial, hS1, Below.refl _ _⟩, hK _ ?_⟩
            clear hK hD1 hS1 K w1
            refine relSeq_on rfl (fun K hK w1 hS1 hD1 => ?_)
            obtain ⟨d0, d1, d2, d3, d4, d5, d6, d7, d8⟩ := (HS5.out w1 hS1).1.c9
            go_simp
            refine ⟨⟨trivial, hS1, Below.refl _ _⟩, hK _ ?_⟩
            clear hK hD1 d0 d1 d2 d3 d4 d5 d6 d7 d8 hS1 K w1
            refine relSeq_on rfl (fun K hK w1 hS1 hD1 => ?_)
            obtain ⟨d0, d1, d2, d3, d4, d5, d6, d7, d8⟩ := (HS5.out w1 hS1).1.c9
            go_simp
            refine ⟨⟨trivial, hS1, Below.refl _ _⟩, hK _ ?_⟩
            clear hK hD1 d0 d1 d2 d3 d4 d5 d6 d7 d8 hS1 K w1
            refine relSeq_on rfl (fun K hK w1 hS1 hD1 => ?_)
            go_simp
            refine ⟨(D3.out w1).mono fun e w2 he => ⟨_, he.1, rfl, HSn.out _ _ hS1 he.2, he.2⟩, fun v hv => ?_⟩
            obtain ⟨_, _, hv⟩ := hv.out
            obtain rfl : v = .bool true := hv
            refine hK _ ?_
            clear hK hD1 hS1 K w1 hv
            refine relSeq_on rfl (fun K hK w1 hS1 hD1 => ?_)
            go_simp
            refine ⟨⟨trivial, hS1, Below.refl _ _⟩, hK _ ?_⟩
            clear hK hD1 hS1 K w1
            refine relSeq_nil ?_
            intro listed w9 hS2 hF2 hl2
            have HBW := Lib.hid (HSd.out w9 hS2)
            clear hF2 hl2 HSd HSn HS5 hS2
            go_wp2
            go_ret
            exact ⟨rfl, HB.out.trans (HBW.out.mono HB.out.size)⟩
          · have D1 : Hid (∀ W, Calls Try.prog 10 #[vec f, vec g] W (Ret (.bool true) W)) := fun W => by have := Covers_any f g W; rwa [hx] at this
            have D2 : Hid (∀ W, Calls Try.prog 10 #[vec g, vec f] W (Ret (.bool true) W)) := fun W => by have := Covers_any g f W; rwa [hy] at this
            clear hx hy
            unfold eqVec at hq
            obtain ⟨S, hS⟩ : ∃ S : World → Prop, S = fun Y => Below X.heap.size X Y := ⟨_, rfl⟩
            have HSd : Hid (∀ Y, S Y → Below X.heap.size X Y) := by intro Y hY; rw [hS] at hY; exact hY
            have HS5 : Hid (∀ Y, S Y → Five Y q0 q1 q2 b7 b9 f g h J M) := fun Y hY => H5.out.below (HSd.out Y hY)
            have HSn : Hid (∀ Y Y', S Y → Below Y.heap.size Y Y' → S Y') := by intro Y Y' hY hb; rw [hS] at hY ⊢; exact hY.trans (hb.mono hY.size)
            have hS0 : S X.drew := by rw [hS]; exact (Below.refl _ _).drew
            clear hS c0 c1 c2 c3 c4 c5 c6 c7 c8 d0 d1 d2 d3 d4 d5 d6 d7 d8 e0 e1 e2 e3 e4 e5 e6 e7 e8 i0 i1 i2 i3 i4 i5 i6 i7 i8 j0 j1 j2 j3 j4 j5 j6 j7 j8
            refine wp_region_held_rel 17 S (fun k u _ => match k with | 2 => u = .bool true | 6 => u = .bool true | 15 => u = .bool true | _ => True) rfl (by kernel_rfl) (by kernel_rfl) (by kernel_rfl) (fun _ _ _ _ _ h => h) hS0 ?_
            clear hS0
            simp only [List.take_succ_cons, List.take_zero, List.drop_succ_cons, List.drop_zero]
            refine relSeq_on rfl (fun K hK w1 hS1 hD1 => ?_)
            obtain ⟨d0, d1, d2, d3, d4, d5, d6, d7, d8⟩ := (HS5.out w1 hS1).1.c9
            go_simp
            refine ⟨⟨trivial, hS1, Below.refl _ _⟩, hK _ ?_⟩
            clear hK hD1 d0 d1 d2 d3 d4 d5 d6 d7 d8 hS1 K w1
            refine relSeq_on rfl (fun K hK w1 hS1 hD1 => ?_)
            obtain ⟨d0, d1, d2, d3, d4, d5, d6, d7, d8⟩ := (HS5.out w1 hS1).2.1.c9
            go_simp
            refine ⟨⟨trivial, hS1, Below.refl _ _⟩, hK _ ?_⟩
            clear hK hD1 d0 d1 d2 d3 d4 d5 d6 d7 d8 hS1 K w1
            refine relSeq_on rfl (fun K hK w1 hS1 hD1 => ?_)
            go_simp
            refine ⟨(D1.out w1).mono fun e w2 he => ⟨_, he.1, rfl, HSn.out _ _ hS1 he.2, he.2⟩, fun v hv => ?_⟩
            obtain ⟨_, _, hv⟩ := hv.out
            obtain rfl : v = .bool true := hv
            refine hK _ ?_
            clear hK hD1 hS1 K w1 hv
            refine relSeq_on rfl (fun K hK w1 hS1 hD1 => ?_)
            go_simp
            refine ⟨⟨trivial, hS1, Below.refl _ _⟩, hK _ ?_⟩
            clear hK hD1 hS1 K w1
            refine relSeq_on rfl (fun K hK w1 hS1 hD1 => ?_)
            obtain ⟨d0, d1, d2, d3, d4, d5, d6, d7, d8⟩ := (HS5.out w1 hS1).2.1.c9
            go_simp
            refine ⟨⟨trivial, hS1, Below.refl _ _⟩, hK _ ?_⟩
            clear hK hD1 d0 d1 d2 d3 d4 d5 d6 d7 d8 hS1 K w1
            refine relSeq_on rfl (fun K hK w1 hS1 hD1 => ?_)
            obtain ⟨d0, d1, d2, d3, d4, d5, d6, d7, d8⟩ := (HS5.out w1 hS1).1.c9
            go_simp
            refine ⟨⟨trivial, hS1, Below.refl _ _⟩, hK _ ?_⟩
            clear hK hD1 d0 d1 d2 d3 d4 d5 d6 d7 d8 hS1 K w1
            refine relSeq_on rfl (fun K hK w1 hS1 hD1 => ?_)
            go_simp
            refine ⟨(D2.out w1).mono fun e w2 he => ⟨_, he.1, rfl, HSn.out _ _ hS1 he.2, he.2⟩, fun v hv => ?_⟩
            obtain ⟨_, _, hv⟩ := hv.out
            obtain rfl : v = .bool true := hv
            refine hK _ ?_
            clear hK hD1 hS1 K w1 hv
            refine relSeq_on rfl (fun K hK w1 hS1 hD1 => ?_)
            go_simp
            refine ⟨⟨trivial, hS1, Below.refl _ _⟩, hK _ ?_⟩
            clear hK hD1 hS1 K w1
            refine relSeq_on rfl (fun K hK w1 hS1 hD1 => ?_)
            obtain ⟨d0, d1, d2, d3, d4, d5, d6, d7, d8⟩ := (HS5.out w1 hS1).1.c9
            go_simp
            refine ⟨⟨trivial, hS1, Below.refl _ _⟩, hK _ ?_⟩
            clear hK hD1 d0 d1 d2 d3 d4 d5 d6 d7 d8 hS1 K w1
            refine relSeq_on rfl (fun K hK w1 hS1 hD1 => ?_)
            obtain ⟨d0, d1, d2, d3, d4, d5, d6, d7, d8⟩ := (HS5.out w1 hS1).2.1.c9
            go_simp
            refine ⟨⟨trivial, hS1, Below.refl _ _⟩, hK _ ?_⟩
            clear hK hD1 d0 d1 d2 d3 d4 d5 d6 d7 d8 hS1 K w1
            refine relSeq_on rfl (fun K hK w1 hS1 hD1 => ?_)
            go_simp
            try rw [hq]
            refine ⟨⟨trivial, hS1, Below.refl _ _⟩, hK _ ?_⟩
            clear hK hD1 hS1 K w1
            refine relSeq_on rfl (fun K hK w1 hS1 hD1 => ?_)
            go_simp
            refine ⟨⟨trivial, hS1, Below.refl _ _⟩, hK _ ?_⟩
            clear hK hD1 hS1 K w1
            refine relSeq_on rfl (fun K hK w1 hS1 hD1 => ?_)
            go_simp
            refine ⟨⟨trivial, hS1, Below.refl _ _⟩, hK _ ?_⟩
            clear hK hD1 hS1 K w1
            refine relSeq_on rfl (fun K hK w1 hS1 hD1 => ?_)
            obtain ⟨d0, d1, d2, d3, d4, d5, d6, d7, d8⟩ := (HS5.out w1 hS1).1.c9
            go_simp
            refine ⟨⟨trivial, hS1, Below.refl _ _⟩, hK _ ?_⟩
            clear hK hD1 d0 d1 d2 d3 d4 d5 d6 d7 d8 hS1 K w1
            refine relSeq_on rfl (fun K hK w1 hS1 hD1 => ?_)
            obtain ⟨d0, d1, d2, d3, d4, d5, d6, d7, d8⟩ := (HS5.out w1 hS1).1.c9
            go_simp
            refine ⟨⟨trivial, hS1, Below.refl _ _⟩, hK _ ?_⟩
            clear hK hD1 d0 d1 d2 d3 d4 d5 d6 d7 d8 hS1 K w1
            refine relSeq_on rfl (fun K hK w1 hS1 hD1 => ?_)
            go_simp
            refine ⟨(D3.out w1).mono fun e w2 he => ⟨_, he.1, rfl, HSn.out _ _ hS1 he.2, he.2⟩, fun v hv => ?_⟩
            obtain ⟨_, _, hv⟩ := hv.out
            obtain rfl : v = .bool true := hv
            refine hK _ ?_
            clear hK hD1 hS1 K w1 hv
            refine relSeq_on rfl (fun K hK w1 hS1 hD1 => ?_)
            go_simp
            refine ⟨⟨trivial, hS1, Below.refl _ _⟩, hK _ ?_⟩
            clear hK hD1 hS1 K w1
            refine relSeq_nil ?_
            intro listed w9 hS2 hF2 hl2
            have HBW := Lib.hid (HSd.out w9 hS2)
            clear hF2 hl2 HSd HSn HS5 hS2
            go_wp2
            go_ret
            exact ⟨rfl, HB.out.trans (HBW.out.mono HB.out.size)⟩
end Go.Proofs.Ytoiaecfiinkmjaa
