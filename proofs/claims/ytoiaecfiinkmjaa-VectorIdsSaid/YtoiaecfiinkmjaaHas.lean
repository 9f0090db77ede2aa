/- vector.Has, vector.Next: their contracts. -/
import Derived.Test.YtoiaecfiinkmjaaIds
import Derived.Test.YtoiaecfiinkmjaaHeld
namespace Go.Proofs.Ytoiaecfiinkmjaa
open Go.RowKit Go.Shelf

/-- what a world keeps that holds a vector and an id in the two blocks from B on. -/
structure HoldsVI (B : Nat) (f : Nat → Int) (t s q : Int) (k : Nat) (W : World) : Prop where
  vec : (W.cell? ⟨B, 0, none⟩ = some (.int .u64 (f 0)) ∧ W.cell? ⟨B, 1, none⟩ = some (.int .u64 (f 1)) ∧ W.cell? ⟨B, 2, none⟩ = some (.int .u64 (f 2)) ∧ W.cell? ⟨B, 3, none⟩ = some (.int .u64 (f 3)) ∧ W.cell? ⟨B, 4, none⟩ = some (.int .u64 (f 4)) ∧ W.cell? ⟨B, 5, none⟩ = some (.int .u64 (f 5)) ∧ W.cell? ⟨B, 6, none⟩ = some (.int .u64 (f 6)) ∧ W.cell? ⟨B, 7, none⟩ = some (.int .u64 (f 7)) ∧ W.cell? ⟨B, 8, none⟩ = some (.int .u64 (f 8)))
  at_ : W.cell? ⟨B, k, none⟩ = some (.int .u64 (f k))
  i0 : W.cell? ⟨B + 1, 0, none⟩ = some (.int .u64 t)
  i1 : W.cell? ⟨B + 1, 1, none⟩ = some (.int .i64 s)
  i2 : W.cell? ⟨B + 1, 2, none⟩ = some (.int .u64 q)
theorem HoldsVI.of {B : Nat} {f : Nat → Int} {t s q : Int} {k : Nat} {W0 W : World} {T U : TypeId} (hk : k < 9) (h : Blk W0 B T (vecC f)) (hi : Blk W0 (B + 1) U #[.int .u64 t, .int .i64 s, .int .u64 q]) (hb : Below (B + 2) W0 W) : HoldsVI B f t s q k W := by
  have e0 : ∀ k, k < 9 → W.cell? ⟨B, k, none⟩ = some (.int .u64 (f k)) := fun k hk => ((h.below hb (by omega)).cell k).trans (vecC_get f hk)
  have e1 := (hi.below hb (by omega)).cell
  exact ⟨⟨e0 0 (by omega), e0 1 (by omega), e0 2 (by omega), e0 3 (by omega), e0 4 (by omega), e0 5 (by omega), e0 6 (by omega), e0 7 (by omega), e0 8 (by omega)⟩, e0 k hk, e1 0, e1 1, e1 2⟩

def HasB (n q : Int) : Bool := decide (q ≤ n)
def NextB (n q : Int) : Bool := q == n + 1

set_option maxRecDepth 100000 in
set_option maxHeartbeats 1000000 in
theorem Has_run (f : Nat → Int) (t q : Int) (s : Nat) (si : Int) (x y : Bool) (w : World) (hx : x = true → si = s ∧ s < 9 ∧ 0 ≤ f s ∧ f s ≤ 4611686018427387904) (hs : s < 9) (hboth : (okVec f && okId t si q) = x)
    (hy : y = (x && HasB (f s) q)) :
    Calls Try.prog 15 #[vec f, idV t si q] w (Ret (.bool y) w) := by
  have hb0 := both_any f t si q
  rw [hboth] at hb0
  have HB := Lib.hid hb0
  have b0 := (Blk.new w 24 (vecC f)).alloc (.cells #[.int .u64 t, .int .i64 si, .int .u64 q] 38)
  have b1 := Blk.new (w.alloc (.cells (vecC f) 24)) 38 #[.int .u64 t, .int .i64 si, .int .u64 q]
  rw [World.size_alloc] at b1
  have B0 := Lib.hid b0
  have B1 := Lib.hid b1
  have hz : ((w.alloc (.cells (vecC f) 24)).alloc (.cells #[.int .u64 t, .int .i64 si, .int .u64 q] 38)).heap.size = w.heap.size + 2 := by simp
  have HZ := Lib.hid hz
  have hw0 : Below w.heap.size w ((w.alloc (.cells (vecC f) 24)).alloc (.cells #[.int .u64 t, .int .i64 si, .int .u64 q] 38)) := by go_grown
  have HW0 := Lib.hid hw0
  have HY := Lib.hid hy
  clear hboth hb0 b0 b1 hz hw0 hy
  go_enter Try.func15, Try.ntmps15
  unfold vec
  go_wp2_with fail
  obtain ⟨S, hS⟩ : ∃ S : World → Prop, S = fun W => Below (w.heap.size + 2) ((w.alloc (.cells (vecC f) 24)).alloc (.cells #[.int .u64 t, .int .i64 si, .int .u64 q] 38)) W := ⟨_, rfl⟩
  have HSc : Hid (∀ W, S W → HoldsVI w.heap.size f t si q s W) := by
    intro W h; rw [hS] at h; exact HoldsVI.of hs B0.out B1.out h
  have HSn : Hid (∀ W W', S W → Below W.heap.size W W' → S W') := by intro W W' h hb; rw [hS] at h ⊢; exact h.trans (hb.mono (by have := h.size; rw [HZ.out] at this; exact this))
  have HSB : Hid (∀ W, S W → Below w.heap.size w W) := by intro W h; rw [hS] at h; exact HW0.out.trans (h.mono (by omega))
  have hS0 : S ((w.alloc (.cells (vecC f) 24)).alloc (.cells #[.int .u64 t, .int .i64 si, .int .u64 q] 38)).drew := by rw [hS]; exact (Below.refl _ _).drew
  clear hS
  refine wp_region_held_rel 12 S (fun k v _ => match k with | 2 => v = .bool x | _ => True) (by kernel_rfl) (by kernel_rfl) (by kernel_rfl) (by kernel_rfl) (fun _ _ _ _ _ h => h) hS0 ?_
  clear hS0
  simp only [List.take_succ_cons, List.take_zero, List.drop_succ_cons, List.drop_zero]
  repeat (first | (refine relSeq_on rfl (fun K hK w1 hS1 hD1 => ?_); obtain ⟨⟨c0, c1, c2, c3, c4, c5, c6, c7, c8⟩, cs, i0, i1, i2⟩ := HSc.out w1 hS1; go_simp; refine ⟨⟨trivial, hS1, Below.refl _ _⟩, hK _ ?_⟩; clear hK hD1 c0 c1 c2 c3 c4 c5 c6 c7 c8 cs i0 i1 i2 hS1 K w1) | (refine relSeq_off rfl (fun _ _ => trivial) (fun K hK => ?_); go_simp; refine hK _ ?_; clear hK K))
  refine relSeq_on rfl (fun K hK w1 hS1 hD1 => ?_)
  go_simp
  refine ⟨(HB.out w1).mono ?_, ?_⟩
  · rintro e w2 ⟨rfl, hb⟩
    exact ⟨_, rfl, rfl, HSn.out _ _ hS1 hb, hb⟩
  intro v hv
  obtain ⟨_, _, hv⟩ := hv.out
  obtain rfl : v = .bool x := hv
  refine hK _ ?_
  clear hK hD1 hS1 K w1 hv
  cases x
  · have HY2 : Hid (y = false) := by rw [HY.out]; rfl
    clear HY
    repeat (first | (refine relSeq_on rfl (fun K hK w1 hS1 hD1 => ?_); obtain ⟨⟨c0, c1, c2, c3, c4, c5, c6, c7, c8⟩, cs, i0, i1, i2⟩ := HSc.out w1 hS1; go_simp; refine ⟨⟨trivial, hS1, Below.refl _ _⟩, hK _ ?_⟩; clear hK hD1 c0 c1 c2 c3 c4 c5 c6 c7 c8 cs i0 i1 i2 hS1 K w1) | (refine relSeq_off rfl (fun _ _ => trivial) (fun K hK => ?_); go_simp; refine hK _ ?_; clear hK K))
    refine relSeq_nil ?_
    intro listed w2 hS2 hF2 hl2
    have HB2 := Lib.hid (HSB.out w2 hS2)
    clear hF2 hl2 hS2
    go_wp2
    go_ret
    rw [HY2.out]
    exact ⟨rfl, HB2.out⟩
  · obtain ⟨rfl, hs9, hp0, hp1⟩ := hx rfl
    have HY2 : Hid (y = HasB (f s) q) := by rw [HY.out]; rfl
    clear HY hx
    have hs0 : (0 : Int) ≤ (s : Int) := by omega
    have hs1 : (s : Int) < 9 := by omega
    have hw : IntKind.u64.wrap (f s + 1) = f s + 1 := IntWalk.u64_in _ (by omega)
    repeat (first | (refine relSeq_on rfl (fun K hK w1 hS1 hD1 => ?_); obtain ⟨⟨c0, c1, c2, c3, c4, c5, c6, c7, c8⟩, cs, i0, i1, i2⟩ := HSc.out w1 hS1; go_simp; refine ⟨⟨trivial, hS1, Below.refl _ _⟩, hK _ ?_⟩; clear hK hD1 c0 c1 c2 c3 c4 c5 c6 c7 c8 cs i0 i1 i2 hS1 K w1) | (refine relSeq_off rfl (fun _ _ => trivial) (fun K hK => ?_); go_simp; refine hK _ ?_; clear hK K))
    refine relSeq_nil ?_
    intro listed w2 hS2 hF2 hl2
    have HB2 := Lib.hid (HSB.out w2 hS2)
    clear hF2 hl2 hS2
    go_wp2
    go_ret
    rw [HY2.out]
    exact ⟨rfl, HB2.out⟩

set_option maxRecDepth 100000 in
set_option maxHeartbeats 1000000 in
theorem Next_run (f : Nat → Int) (t q : Int) (s : Nat) (si : Int) (x y : Bool) (w : World) (hx : x = true → si = s ∧ s < 9 ∧ 0 ≤ f s ∧ f s ≤ 4611686018427387904) (hs : s < 9) (hboth : (okVec f && okId t si q) = x)
    (hy : y = (x && NextB (f s) q)) :
    Calls Try.prog 16 #[vec f, idV t si q] w (Ret (.bool y) w) := by
  have hb0 := both_any f t si q
  rw [hboth] at hb0
  have HB := Lib.hid hb0
  have b0 := (Blk.new w 24 (vecC f)).alloc (.cells #[.int .u64 t, .int .i64 si, .int .u64 q] 38)
  have b1 := Blk.new (w.alloc (.cells (vecC f) 24)) 38 #[.int .u64 t, .int .i64 si, .int .u64 q]
  rw [World.size_alloc] at b1
  have B0 := Lib.hid b0
  have B1 := Lib.hid b1
  have hz : ((w.alloc (.cells (vecC f) 24)).alloc (.cells #[.int .u64 t, .int .i64 si, .int .u64 q] 38)).heap.size = w.heap.size + 2 := by simp
  have HZ := Lib.hid hz
  have hw0 : Below w.heap.size w ((w.alloc (.cells (vecC f) 24)).alloc (.cells #[.int .u64 t, .int .i64 si, .int .u64 q] 38)) := by go_grown
  have HW0 := Lib.hid hw0
  have HY := Lib.hid hy
  clear hboth hb0 b0 b1 hz hw0 hy
  go_enter Try.func16, Try.ntmps16
  unfold vec
  go_wp2_with fail
  obtain ⟨S, hS⟩ : ∃ S : World → Prop, S = fun W => Below (w.heap.size + 2) ((w.alloc (.cells (vecC f) 24)).alloc (.cells #[.int .u64 t, .int .i64 si, .int .u64 q] 38)) W := ⟨_, rfl⟩
  have HSc : Hid (∀ W, S W → HoldsVI w.heap.size f t si q s W) := by
    intro W h; rw [hS] at h; exact HoldsVI.of hs B0.out B1.out h
  have HSn : Hid (∀ W W', S W → Below W.heap.size W W' → S W') := by intro W W' h hb; rw [hS] at h ⊢; exact h.trans (hb.mono (by have := h.size; rw [HZ.out] at this; exact this))
  have HSB : Hid (∀ W, S W → Below w.heap.size w W) := by intro W h; rw [hS] at h; exact HW0.out.trans (h.mono (by omega))
  have hS0 : S ((w.alloc (.cells (vecC f) 24)).alloc (.cells #[.int .u64 t, .int .i64 si, .int .u64 q] 38)).drew := by rw [hS]; exact (Below.refl _ _).drew
  clear hS
  refine wp_region_held_rel 13 S (fun k v _ => match k with | 2 => v = .bool x | _ => True) (by kernel_rfl) (by kernel_rfl) (by kernel_rfl) (by kernel_rfl) (fun _ _ _ _ _ h => h) hS0 ?_
  clear hS0
  simp only [List.take_succ_cons, List.take_zero, List.drop_succ_cons, List.drop_zero]
  repeat (first | (refine relSeq_on rfl (fun K hK w1 hS1 hD1 => ?_); obtain ⟨⟨c0, c1, c2, c3, c4, c5, c6, c7, c8⟩, cs, i0, i1, i2⟩ := HSc.out w1 hS1; go_simp; refine ⟨⟨trivial, hS1, Below.refl _ _⟩, hK _ ?_⟩; clear hK hD1 c0 c1 c2 c3 c4 c5 c6 c7 c8 cs i0 i1 i2 hS1 K w1) | (refine relSeq_off rfl (fun _ _ => trivial) (fun K hK => ?_); go_simp; refine hK _ ?_; clear hK K))
  refine relSeq_on rfl (fun K hK w1 hS1 hD1 => ?_)
  go_simp
  refine ⟨(HB.out w1).mono ?_, ?_⟩
  · rintro e w2 ⟨rfl, hb⟩
    exact ⟨_, rfl, rfl, HSn.out _ _ hS1 hb, hb⟩
  intro v hv
  obtain ⟨_, _, hv⟩ := hv.out
  obtain rfl : v = .bool x := hv
  refine hK _ ?_
  clear hK hD1 hS1 K w1 hv
  cases x
  · have HY2 : Hid (y = false) := by rw [HY.out]; rfl
    clear HY
    repeat (first | (refine relSeq_on rfl (fun K hK w1 hS1 hD1 => ?_); obtain ⟨⟨c0, c1, c2, c3, c4, c5, c6, c7, c8⟩, cs, i0, i1, i2⟩ := HSc.out w1 hS1; go_simp; refine ⟨⟨trivial, hS1, Below.refl _ _⟩, hK _ ?_⟩; clear hK hD1 c0 c1 c2 c3 c4 c5 c6 c7 c8 cs i0 i1 i2 hS1 K w1) | (refine relSeq_off rfl (fun _ _ => trivial) (fun K hK => ?_); go_simp; refine hK _ ?_; clear hK K))
    refine relSeq_nil ?_
    intro listed w2 hS2 hF2 hl2
    have HB2 := Lib.hid (HSB.out w2 hS2)
    clear hF2 hl2 hS2
    go_wp2
    go_ret
    rw [HY2.out]
    exact ⟨rfl, HB2.out⟩
  · obtain ⟨rfl, hs9, hp0, hp1⟩ := hx rfl
    have HY2 : Hid (y = NextB (f s) q) := by rw [HY.out]; rfl
    clear HY hx
    have hs0 : (0 : Int) ≤ (s : Int) := by omega
    have hs1 : (s : Int) < 9 := by omega
    have hw : IntKind.u64.wrap (f s + 1) = f s + 1 := IntWalk.u64_in _ (by omega)
    repeat (first | (refine relSeq_on rfl (fun K hK w1 hS1 hD1 => ?_); obtain ⟨⟨c0, c1, c2, c3, c4, c5, c6, c7, c8⟩, cs, i0, i1, i2⟩ := HSc.out w1 hS1; go_simp; refine ⟨⟨trivial, hS1, Below.refl _ _⟩, hK _ ?_⟩; clear hK hD1 c0 c1 c2 c3 c4 c5 c6 c7 c8 cs i0 i1 i2 hS1 K w1) | (refine relSeq_off rfl (fun _ _ => trivial) (fun K hK => ?_); go_simp; refine hK _ ?_; clear hK K))
    refine relSeq_nil ?_
    intro listed w2 hS2 hF2 hl2
    have HB2 := Lib.hid (HSB.out w2 hS2)
    clear hF2 hl2 hS2
    go_wp2
    go_ret
    rw [HY2.out]
    exact ⟨rfl, HB2.out⟩

/-- has it an id? is an id the next one? -/
def hasB (f : Nat → Int) (t s q : Int) : Bool := okVec f && okId t s q && decide (q ≤ f s.toNat)
def nextB (f : Nat → Int) (t s q : Int) : Bool := okVec f && okId t s q && (q == f s.toNat + 1)
/-- no number is below 0. -/
def posV (f : Nat → Int) : Prop := ∀ k, 0 ≤ f k
theorem okVec_le {f : Nat → Int} (h : okVec f = true) {k : Nat} (hk : k < 9) : f k ≤ maxT := by
  obtain ⟨h0, h1⟩ := (okVec_iff f).1 h
  by_cases hk0 : k = 0
  · subst hk0; rw [h0]; unfold maxT; omega
  · exact h1 k (by omega) (by omega)
theorem Has_any (f : Nat → Int) (hp : posV f) (t s q : Int) (w : World) : Calls Try.prog 15 #[vec f, idV t s q] w (Ret (.bool (hasB f t s q)) w) := by
  cases hx : (okVec f && okId t s q)
  · exact Has_run f t q 0 s false _ w (fun h => by cases h) (by omega) hx (by simp [hasB, hx])
  · have hx2 := hx
    rw [Bool.and_eq_true] at hx2
    have hi := (okId_iff t s q).1 hx2.2
    have hle := okVec_le hx2.1 (k := s.toNat) (by omega)
    exact Has_run f t q s.toNat s true _ w (fun _ => ⟨by omega, by omega, hp _, hle⟩) (by omega) hx (by simp [hasB, hx, HasB])
theorem Next_any (f : Nat → Int) (hp : posV f) (t s q : Int) (w : World) : Calls Try.prog 16 #[vec f, idV t s q] w (Ret (.bool (nextB f t s q)) w) := by
  cases hx : (okVec f && okId t s q)
  · exact Next_run f t q 0 s false _ w (fun h => by cases h) (by omega) hx (by simp [nextB, hx])
  · have hx2 := hx
    rw [Bool.and_eq_true] at hx2
    have hi := (okId_iff t s q).1 hx2.2
    have hle := okVec_le hx2.1 (k := s.toNat) (by omega)
    exact Next_run f t q s.toNat s true _ w (fun _ => ⟨by omega, by omega, hp _, hle⟩) (by omega) hx (by simp [nextB, hx, NextB])
end Go.Proofs.Ytoiaecfiinkmjaa
