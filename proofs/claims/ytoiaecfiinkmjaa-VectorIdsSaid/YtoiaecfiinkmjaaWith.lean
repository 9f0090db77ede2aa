/- vector.With: its contract. -/
import Derived.Test.YtoiaecfiinkmjaaHas
import Derived.Test.YtoiaecfiinkmjaaCovers
namespace Go.Proofs.Ytoiaecfiinkmjaa
open Go.RowKit Go.Shelf

/-- one number raised. -/
def upd (f : Nat → Int) (s : Nat) : Nat → Int := fun k => if k = s then f s + 1 else f k
/-- the error of an id that can't be taken. -/
def takeE (f : Nat → Int) (t s q : Int) : Int := if okId t s q = false then 210 else if q ≤ f s.toNat then 5 else if q = f s.toNat + 1 then 0 else 231

/-- what take's regions read. -/
structure HoldsT (h B : Nat) (f : Nat → Int) (t s q : Int) (W : World) : Prop where
  vec : (W.cell? ⟨h, 0, none⟩ = some (.int .u64 (f 0)) ∧ W.cell? ⟨h, 1, none⟩ = some (.int .u64 (f 1)) ∧ W.cell? ⟨h, 2, none⟩ = some (.int .u64 (f 2)) ∧ W.cell? ⟨h, 3, none⟩ = some (.int .u64 (f 3)) ∧ W.cell? ⟨h, 4, none⟩ = some (.int .u64 (f 4)) ∧ W.cell? ⟨h, 5, none⟩ = some (.int .u64 (f 5)) ∧ W.cell? ⟨h, 6, none⟩ = some (.int .u64 (f 6)) ∧ W.cell? ⟨h, 7, none⟩ = some (.int .u64 (f 7)) ∧ W.cell? ⟨h, 8, none⟩ = some (.int .u64 (f 8)))
  i0 : W.cell? ⟨B, 0, none⟩ = some (.int .u64 t)
  i1 : W.cell? ⟨B, 1, none⟩ = some (.int .i64 s)
  i2 : W.cell? ⟨B, 2, none⟩ = some (.int .u64 q)
theorem HoldsT.of {h B : Nat} {f : Nat → Int} {t s q : Int} {W : World} {T U : TypeId} (hh : Blk W h T (vecC f)) (hi : Blk W B U #[.int .u64 t, .int .i64 s, .int .u64 q]) : HoldsT h B f t s q W := by
  have e0 : ∀ k, k < 9 → W.cell? ⟨h, k, none⟩ = some (.int .u64 (f k)) := fun k hk => (hh.cell k).trans (vecC_get f hk)
  have e1 := hi.cell
  exact ⟨⟨e0 0 (by omega), e0 1 (by omega), e0 2 (by omega), e0 3 (by omega), e0 4 (by omega), e0 5 (by omega), e0 6 (by omega), e0 7 (by omega), e0 8 (by omega)⟩, e1 0, e1 1, e1 2⟩

set_option maxRecDepth 100000 in
set_option maxHeartbeats 1000000 in
theorem take_bad0 (h : Nat) (t s q : Int) (w : World) (hid : okId t s q = false) :
    Calls Try.prog 44 #[.pointer (some ⟨h, 0, none⟩), idV t s q] w (Panics 210 w) := by
  go_enter Try.func44, Try.ntmps44
  go_wp2_with (first | (go_at_call 50; refine (Check_id_bad t s q hid _).mono ?_; rintro e W ⟨rfl, hb⟩; have HB : Hid (Below w.heap.size w W) := Below.trans (by go_grown) (hb.mono (by simp)); clear hb) | (go_at_call 43; refine (need_false _ _).mono ?_; rintro e w' ⟨rfl, rfl⟩))
  exact ⟨rfl, rfl, HB.out⟩

set_option maxRecDepth 100000 in
set_option maxHeartbeats 2000000 in
theorem take_ok (h : Nat) (T : TypeId) (f : Nat → Int) (hp : posV f) (hok : okVec f = true) (t q : Int) (s : Nat) (w : World) (hh : Blk w h T (vecC f)) (hid : okId t s q = true) (hq : q = f s + 1) :
    Calls Try.prog 44 #[.pointer (some ⟨h, 0, none⟩), idV t s q] w fun e w' => e = .returned (.tuple #[]) ∧ Below h w w' ∧ Blk w' h T (vecC (upd f s)) := by
  have hh1 := hh.lt
  have hs9 : s < 9 := by have := (okId_iff t s q).1 hid; omega
  have hle := okVec_le hok hs9
  have hp0 := hp s
  have hw1 : IntKind.u64.wrap (f s + 1) = f s + 1 := IntWalk.u64_in _ (by unfold maxT at hle; omega)
  have HW1 := Lib.hid hw1
  clear hw1 hle hp0
  have hhas := Has_any f hp t s q
  rw [show hasB f t s q = false by rw [hasB, hok, hid]; simp; omega] at hhas
  have hnext := Next_any f hp t s q
  rw [show nextB f t s q = true by rw [nextB, hok, hid]; simp; omega] at hnext
  have HA := Lib.hid hhas
  have HN := Lib.hid hnext
  have k0 := hh.alloc (.cells #[.int .u64 t, .int .i64 s, .int .u64 q] 38)
  have k1 := Blk.new w 38 #[.int .u64 t, .int .i64 s, .int .u64 q]
  have K0 := Lib.hid k0
  have K1 := Lib.hid k1
  have HQ := Lib.hid hq
  clear hhas hnext k0 k1 hq hh
  go_enter Try.func44, Try.ntmps44
  go_wp2_with (first | (go_at_call 50; refine (Check_id_ok t s q hid _).mono ?_; rintro e W ⟨rfl, hb⟩) | (go_at_call 43; refine (need_true _ _).mono ?_; rintro e w' ⟨rfl, rfl⟩))
  have hz : w.heap.size < W.heap.size := by have := hb.size; simp at this; omega
  have L0 := Lib.hid (K0.out.below hb (by simp; omega))
  have L1 := Lib.hid (K1.out.below hb (by simp))
  have HB : Hid (Below w.heap.size w W) := Below.trans (by go_grown) (hb.mono (by simp))
  clear hb K0 K1
  obtain ⟨S, hS⟩ : ∃ S : World → Prop, S = fun X => Below (w.heap.size + 1) W X := ⟨_, rfl⟩
  have HSk : Hid (∀ X, S X → Blk X h T (vecC f) ∧ Blk X w.heap.size 38 #[.int .u64 t, .int .i64 s, .int .u64 q]) := by intro X hx; rw [hS] at hx; exact ⟨L0.out.below hx (by omega), L1.out.below hx (by omega)⟩
  have HSc : Hid (∀ X, S X → HoldsT h w.heap.size f t s q X) := fun X hx => HoldsT.of (HSk.out X hx).1 (HSk.out X hx).2
  have HSn : Hid (∀ X X', S X → Below X.heap.size X X' → S X') := by intro X X' hx hb; rw [hS] at hx ⊢; exact hx.trans (hb.mono (by have := hx.size; omega))
  have HSB : Hid (∀ X, S X → Below w.heap.size w X) := by intro X hx; rw [hS] at hx; exact HB.out.trans (hx.mono (by omega))
  have hS0 : S W.drew := by rw [hS]; exact (Below.refl _ _).drew
  have HSd : Hid (∀ X, S X → S X.drew) := by intro X hx; rw [hS] at hx ⊢; exact hx.drew
  clear hS
  refine wp_region_held_rel 7 S (fun k v _ => match k with | 5 => v = .bool false | _ => True) (by kernel_rfl) (by kernel_rfl) (by kernel_rfl) (by kernel_rfl) (fun _ _ _ _ _ h => h) hS0 ?_
  clear hS0
  simp only [List.take_succ_cons, List.take_zero, List.drop_succ_cons, List.drop_zero]
  repeat (first | (refine relSeq_on rfl (fun K hK w1 hS1 hD1 => ?_); obtain ⟨⟨c0, c1, c2, c3, c4, c5, c6, c7, c8⟩, i0, i1, i2⟩ := HSc.out w1 hS1; go_simp; refine ⟨⟨trivial, hS1, Below.refl _ _⟩, hK _ ?_⟩; clear hK hD1 c0 c1 c2 c3 c4 c5 c6 c7 c8 i0 i1 i2 hS1 K w1) | (refine relSeq_off rfl (fun _ _ => trivial) (fun K hK => ?_); go_simp; refine hK _ ?_; clear hK K))
  refine relSeq_on rfl (fun K hK w1 hS1 hD1 => ?_)
  go_simp
  refine ⟨(HA.out w1).mono ?_, ?_⟩
  · rintro e w2 ⟨rfl, hb⟩
    exact ⟨_, rfl, rfl, HSn.out _ _ hS1 hb, hb⟩
  intro v hv
  obtain ⟨_, _, hv⟩ := hv.out
  obtain rfl : v = .bool false := hv
  refine hK _ ?_
  clear hK hD1 hS1 K w1 hv
  repeat (first | (refine relSeq_on rfl (fun K hK w1 hS1 hD1 => ?_); obtain ⟨⟨c0, c1, c2, c3, c4, c5, c6, c7, c8⟩, i0, i1, i2⟩ := HSc.out w1 hS1; go_simp; refine ⟨⟨trivial, hS1, Below.refl _ _⟩, hK _ ?_⟩; clear hK hD1 c0 c1 c2 c3 c4 c5 c6 c7 c8 i0 i1 i2 hS1 K w1) | (refine relSeq_off rfl (fun _ _ => trivial) (fun K hK => ?_); go_simp; refine hK _ ?_; clear hK K))
  refine relSeq_nil ?_
  intro listed w2 hS2 hF2 hl2
  clear hF2 hl2
  go_wp2_with (go_at_call 43; refine (need_true _ _).mono ?_; rintro e w' ⟨rfl, rfl⟩)
  have hS0 := HSd.out _ hS2
  refine wp_region_held_rel 6 S (fun k v _ => match k with | 5 => v = .bool true | _ => True) (by kernel_rfl) (by kernel_rfl) (by kernel_rfl) (by kernel_rfl) (fun _ _ _ _ _ h => h) hS0 ?_
  clear hS0 hS2
  simp only [List.take_succ_cons, List.take_zero, List.drop_succ_cons, List.drop_zero]
  repeat (first | (refine relSeq_on rfl (fun K hK w1 hS1 hD1 => ?_); obtain ⟨⟨c0, c1, c2, c3, c4, c5, c6, c7, c8⟩, i0, i1, i2⟩ := HSc.out w1 hS1; go_simp; refine ⟨⟨trivial, hS1, Below.refl _ _⟩, hK _ ?_⟩; clear hK hD1 c0 c1 c2 c3 c4 c5 c6 c7 c8 i0 i1 i2 hS1 K w1) | (refine relSeq_off rfl (fun _ _ => trivial) (fun K hK => ?_); go_simp; refine hK _ ?_; clear hK K))
  refine relSeq_on rfl (fun K hK w1 hS1 hD1 => ?_)
  go_simp
  refine ⟨(HN.out w1).mono ?_, ?_⟩
  · rintro e w2 ⟨rfl, hb⟩
    exact ⟨_, rfl, rfl, HSn.out _ _ hS1 hb, hb⟩
  intro v hv
  obtain ⟨_, _, hv⟩ := hv.out
  obtain rfl : v = .bool true := hv
  refine hK _ ?_
  clear hK hD1 hS1 K w1 hv
  refine relSeq_nil ?_
  intro listed w3 hS3 hF3 hl3
  clear hF3 hl3
  go_wp2_with (go_at_call 43; refine (need_true _ _).mono ?_; rintro e w' ⟨rfl, rfl⟩)
  obtain ⟨_, i0, i1, i2⟩ := HSc.out w3 hS3
  have hv := ((HSk.out w3 hS3).1.cell s).trans (vecC_get f hs9)
  have hf := (HSk.out w3 hS3).1.frozen s
  have hs0 : (0 : Int) ≤ (s : Int) := by omega
  have hs1 : (s : Int) < 9 := by omega
  have hw2 := HW1.out
  refine wp_region_still_tail 11 (by kernel_rfl) (by kernel_rfl) ?_
  simp only [List.take_succ_cons, List.take_zero, List.drop_succ_cons, List.drop_zero]
  repeat still_step
  refine wpStill_nil ?_
  change wpList _ _ _ _ _ w3.drew
  clear hw2
  go_wp2
  go_end0
  refine ⟨rfl, (((HSB.out w3 hS3).mono (B' := h) (by omega)).drew).setCell (p := ⟨h, s, none⟩) (Nat.le_refl _) _, ?_⟩
  have := ((HSk.out w3 hS3).1.drew).set s (.int .u64 (f s + 1))
  rwa [vecC_set _ hs9] at this
set_option maxRecDepth 100000 in
set_option maxHeartbeats 2000000 in
theorem take_bad1 (h : Nat) (T : TypeId) (f : Nat → Int) (hp : posV f) (hok : okVec f = true) (t q : Int) (s : Nat) (w : World) (hh : Blk w h T (vecC f)) (hid : okId t s q = true) (hq : q ≤ f s) :
    Calls Try.prog 44 #[.pointer (some ⟨h, 0, none⟩), idV t s q] w (Panics 5 w) := by
  have hh1 := hh.lt
  have hs9 : s < 9 := by have := (okId_iff t s q).1 hid; omega
  have hhas := Has_any f hp t s q
  rw [show hasB f t s q = true by rw [hasB, hok, hid]; simp; omega] at hhas
  have HA := Lib.hid hhas
  have k0 := hh.alloc (.cells #[.int .u64 t, .int .i64 s, .int .u64 q] 38)
  have k1 := Blk.new w 38 #[.int .u64 t, .int .i64 s, .int .u64 q]
  have K0 := Lib.hid k0
  have K1 := Lib.hid k1
  have HQ := Lib.hid hq
  clear hhas k0 k1 hq hh
  go_enter Try.func44, Try.ntmps44
  go_wp2_with (first | (go_at_call 50; refine (Check_id_ok t s q hid _).mono ?_; rintro e W ⟨rfl, hb⟩) | (go_at_call 43; refine (need_true _ _).mono ?_; rintro e w' ⟨rfl, rfl⟩))
  have hz : w.heap.size < W.heap.size := by have := hb.size; simp at this; omega
  have L0 := Lib.hid (K0.out.below hb (by simp; omega))
  have L1 := Lib.hid (K1.out.below hb (by simp))
  have HB : Hid (Below w.heap.size w W) := Below.trans (by go_grown) (hb.mono (by simp))
  clear hb K0 K1
  obtain ⟨S, hS⟩ : ∃ S : World → Prop, S = fun X => Below (w.heap.size + 1) W X := ⟨_, rfl⟩
  have HSk : Hid (∀ X, S X → Blk X h T (vecC f) ∧ Blk X w.heap.size 38 #[.int .u64 t, .int .i64 s, .int .u64 q]) := by intro X hx; rw [hS] at hx; exact ⟨L0.out.below hx (by omega), L1.out.below hx (by omega)⟩
  have HSc : Hid (∀ X, S X → HoldsT h w.heap.size f t s q X) := fun X hx => HoldsT.of (HSk.out X hx).1 (HSk.out X hx).2
  have HSn : Hid (∀ X X', S X → Below X.heap.size X X' → S X') := by intro X X' hx hb; rw [hS] at hx ⊢; exact hx.trans (hb.mono (by have := hx.size; omega))
  have HSB : Hid (∀ X, S X → Below w.heap.size w X) := by intro X hx; rw [hS] at hx; exact HB.out.trans (hx.mono (by omega))
  have hS0 : S W.drew := by rw [hS]; exact (Below.refl _ _).drew
  have HSd : Hid (∀ X, S X → S X.drew) := by intro X hx; rw [hS] at hx ⊢; exact hx.drew
  clear hS
  refine wp_region_held_rel 7 S (fun k v _ => match k with | 5 => v = .bool true | _ => True) (by kernel_rfl) (by kernel_rfl) (by kernel_rfl) (by kernel_rfl) (fun _ _ _ _ _ h => h) hS0 ?_
  clear hS0
  simp only [List.take_succ_cons, List.take_zero, List.drop_succ_cons, List.drop_zero]
  repeat (first | (refine relSeq_on rfl (fun K hK w1 hS1 hD1 => ?_); obtain ⟨⟨c0, c1, c2, c3, c4, c5, c6, c7, c8⟩, i0, i1, i2⟩ := HSc.out w1 hS1; go_simp; refine ⟨⟨trivial, hS1, Below.refl _ _⟩, hK _ ?_⟩; clear hK hD1 c0 c1 c2 c3 c4 c5 c6 c7 c8 i0 i1 i2 hS1 K w1) | (refine relSeq_off rfl (fun _ _ => trivial) (fun K hK => ?_); go_simp; refine hK _ ?_; clear hK K))
  refine relSeq_on rfl (fun K hK w1 hS1 hD1 => ?_)
  go_simp
  refine ⟨(HA.out w1).mono ?_, ?_⟩
  · rintro e w2 ⟨rfl, hb⟩
    exact ⟨_, rfl, rfl, HSn.out _ _ hS1 hb, hb⟩
  intro v hv
  obtain ⟨_, _, hv⟩ := hv.out
  obtain rfl : v = .bool true := hv
  refine hK _ ?_
  clear hK hD1 hS1 K w1 hv
  repeat (first | (refine relSeq_on rfl (fun K hK w1 hS1 hD1 => ?_); obtain ⟨⟨c0, c1, c2, c3, c4, c5, c6, c7, c8⟩, i0, i1, i2⟩ := HSc.out w1 hS1; go_simp; refine ⟨⟨trivial, hS1, Below.refl _ _⟩, hK _ ?_⟩; clear hK hD1 c0 c1 c2 c3 c4 c5 c6 c7 c8 i0 i1 i2 hS1 K w1) | (refine relSeq_off rfl (fun _ _ => trivial) (fun K hK => ?_); go_simp; refine hK _ ?_; clear hK K))
  refine relSeq_nil ?_
  intro listed w2 hS2 hF2 hl2
  clear hF2 hl2
  have HB2 := Lib.hid (HSB.out w2 hS2)
  go_wp2_with (go_at_call 43; refine (need_false _ _).mono ?_; rintro e w' ⟨rfl, rfl⟩)
  exact ⟨rfl, rfl, HB2.out⟩

set_option maxRecDepth 100000 in
set_option maxHeartbeats 2000000 in
theorem take_bad2 (h : Nat) (T : TypeId) (f : Nat → Int) (hp : posV f) (hok : okVec f = true) (t q : Int) (s : Nat) (w : World) (hh : Blk w h T (vecC f)) (hid : okId t s q = true) (hq : f s + 1 < q) :
    Calls Try.prog 44 #[.pointer (some ⟨h, 0, none⟩), idV t s q] w (Panics 231 w) := by
  have hh1 := hh.lt
  have hs9 : s < 9 := by have := (okId_iff t s q).1 hid; omega
  have hhas := Has_any f hp t s q
  rw [show hasB f t s q = false by rw [hasB, hok, hid]; simp; omega] at hhas
  have hnext := Next_any f hp t s q
  rw [show nextB f t s q = false by rw [nextB, hok, hid]; simp; omega] at hnext
  have HA := Lib.hid hhas
  have HN := Lib.hid hnext
  have k0 := hh.alloc (.cells #[.int .u64 t, .int .i64 s, .int .u64 q] 38)
  have k1 := Blk.new w 38 #[.int .u64 t, .int .i64 s, .int .u64 q]
  have K0 := Lib.hid k0
  have K1 := Lib.hid k1
  have HQ := Lib.hid hq
  clear hhas hnext k0 k1 hq hh
  go_enter Try.func44, Try.ntmps44
  go_wp2_with (first | (go_at_call 50; refine (Check_id_ok t s q hid _).mono ?_; rintro e W ⟨rfl, hb⟩) | (go_at_call 43; refine (need_true _ _).mono ?_; rintro e w' ⟨rfl, rfl⟩))
  have hz : w.heap.size < W.heap.size := by have := hb.size; simp at this; omega
  have L0 := Lib.hid (K0.out.below hb (by simp; omega))
  have L1 := Lib.hid (K1.out.below hb (by simp))
  have HB : Hid (Below w.heap.size w W) := Below.trans (by go_grown) (hb.mono (by simp))
  clear hb K0 K1
  obtain ⟨S, hS⟩ : ∃ S : World → Prop, S = fun X => Below (w.heap.size + 1) W X := ⟨_, rfl⟩
  have HSk : Hid (∀ X, S X → Blk X h T (vecC f) ∧ Blk X w.heap.size 38 #[.int .u64 t, .int .i64 s, .int .u64 q]) := by intro X hx; rw [hS] at hx; exact ⟨L0.out.below hx (by omega), L1.out.below hx (by omega)⟩
  have HSc : Hid (∀ X, S X → HoldsT h w.heap.size f t s q X) := fun X hx => HoldsT.of (HSk.out X hx).1 (HSk.out X hx).2
  have HSn : Hid (∀ X X', S X → Below X.heap.size X X' → S X') := by intro X X' hx hb; rw [hS] at hx ⊢; exact hx.trans (hb.mono (by have := hx.size; omega))
  have HSB : Hid (∀ X, S X → Below w.heap.size w X) := by intro X hx; rw [hS] at hx; exact HB.out.trans (hx.mono (by omega))
  have hS0 : S W.drew := by rw [hS]; exact (Below.refl _ _).drew
  have HSd : Hid (∀ X, S X → S X.drew) := by intro X hx; rw [hS] at hx ⊢; exact hx.drew
  clear hS
  refine wp_region_held_rel 7 S (fun k v _ => match k with | 5 => v = .bool false | _ => True) (by kernel_rfl) (by kernel_rfl) (by kernel_rfl) (by kernel_rfl) (fun _ _ _ _ _ h => h) hS0 ?_
  clear hS0
  simp only [List.take_succ_cons, List.take_zero, List.drop_succ_cons, List.drop_zero]
  repeat (first | (refine relSeq_on rfl (fun K hK w1 hS1 hD1 => ?_); obtain ⟨⟨c0, c1, c2, c3, c4, c5, c6, c7, c8⟩, i0, i1, i2⟩ := HSc.out w1 hS1; go_simp; refine ⟨⟨trivial, hS1, Below.refl _ _⟩, hK _ ?_⟩; clear hK hD1 c0 c1 c2 c3 c4 c5 c6 c7 c8 i0 i1 i2 hS1 K w1) | (refine relSeq_off rfl (fun _ _ => trivial) (fun K hK => ?_); go_simp; refine hK _ ?_; clear hK K))
  refine relSeq_on rfl (fun K hK w1 hS1 hD1 => ?_)
  go_simp
  refine ⟨(HA.out w1).mono ?_, ?_⟩
  · rintro e w2 ⟨rfl, hb⟩
    exact ⟨_, rfl, rfl, HSn.out _ _ hS1 hb, hb⟩
  intro v hv
  obtain ⟨_, _, hv⟩ := hv.out
  obtain rfl : v = .bool false := hv
  refine hK _ ?_
  clear hK hD1 hS1 K w1 hv
  repeat (first | (refine relSeq_on rfl (fun K hK w1 hS1 hD1 => ?_); obtain ⟨⟨c0, c1, c2, c3, c4, c5, c6, c7, c8⟩, i0, i1, i2⟩ := HSc.out w1 hS1; go_simp; refine ⟨⟨trivial, hS1, Below.refl _ _⟩, hK _ ?_⟩; clear hK hD1 c0 c1 c2 c3 c4 c5 c6 c7 c8 i0 i1 i2 hS1 K w1) | (refine relSeq_off rfl (fun _ _ => trivial) (fun K hK => ?_); go_simp; refine hK _ ?_; clear hK K))
  refine relSeq_nil ?_
  intro listed w2 hS2 hF2 hl2
  clear hF2 hl2
  go_wp2_with (go_at_call 43; refine (need_true _ _).mono ?_; rintro e w' ⟨rfl, rfl⟩)
  have hS0 := HSd.out _ hS2
  refine wp_region_held_rel 6 S (fun k v _ => match k with | 5 => v = .bool false | _ => True) (by kernel_rfl) (by kernel_rfl) (by kernel_rfl) (by kernel_rfl) (fun _ _ _ _ _ h => h) hS0 ?_
  clear hS0 hS2
  simp only [List.take_succ_cons, List.take_zero, List.drop_succ_cons, List.drop_zero]
  repeat (first | (refine relSeq_on rfl (fun K hK w1 hS1 hD1 => ?_); obtain ⟨⟨c0, c1, c2, c3, c4, c5, c6, c7, c8⟩, i0, i1, i2⟩ := HSc.out w1 hS1; go_simp; refine ⟨⟨trivial, hS1, Below.refl _ _⟩, hK _ ?_⟩; clear hK hD1 c0 c1 c2 c3 c4 c5 c6 c7 c8 i0 i1 i2 hS1 K w1) | (refine relSeq_off rfl (fun _ _ => trivial) (fun K hK => ?_); go_simp; refine hK _ ?_; clear hK K))
  refine relSeq_on rfl (fun K hK w1 hS1 hD1 => ?_)
  go_simp
  refine ⟨(HN.out w1).mono ?_, ?_⟩
  · rintro e w2 ⟨rfl, hb⟩
    exact ⟨_, rfl, rfl, HSn.out _ _ hS1 hb, hb⟩
  intro v hv
  obtain ⟨_, _, hv⟩ := hv.out
  obtain rfl : v = .bool false := hv
  refine hK _ ?_
  clear hK hD1 hS1 K w1 hv
  refine relSeq_nil ?_
  intro listed w3 hS3 hF3 hl3
  clear hF3 hl3
  have HB2 := Lib.hid (HSB.out w3 hS3)
  go_wp2_with (go_at_call 43; refine (need_false _ _).mono ?_; rintro e w' ⟨rfl, rfl⟩)
  exact ⟨rfl, rfl, HB2.out⟩

end Go.Proofs.Ytoiaecfiinkmjaa
