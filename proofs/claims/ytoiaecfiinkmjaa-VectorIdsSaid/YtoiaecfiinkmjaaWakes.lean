/- gessolaw13.wakes returns true. -/
import Derived.Test.YtoiaecfiinkmjaaId13
import Derived.Test.YtoiaecfiinkmjaaCovers
import Derived.Test.YtoiaecfiinkmjaaText
namespace Go.Proofs.Ytoiaecfiinkmjaa
open Go.RowKit Go.Shelf

/-- a vector of nine numbers. -/
def vl (x0 x1 x2 x3 x4 x5 x6 x7 x8 : Int) : Nat → Int := fun k => match k with
  | 0 => x0 | 1 => x1 | 2 => x2 | 3 => x3 | 4 => x4 | 5 => x5 | 6 => x6 | 7 => x7 | _ => x8
theorem posV_vl {x0 x1 x2 x3 x4 x5 x6 x7 x8 : Int} (h0 : 0 ≤ x0) (h1 : 0 ≤ x1) (h2 : 0 ≤ x2) (h3 : 0 ≤ x3) (h4 : 0 ≤ x4) (h5 : 0 ≤ x5) (h6 : 0 ≤ x6) (h7 : 0 ≤ x7) (h8 : 0 ≤ x8) : posV (vl x0 x1 x2 x3 x4 x5 x6 x7 x8) := by
  intro k
  unfold vl
  split <;> assumption
abbrev wV := vl 0 2 3 0 0 0 0 0 0
abbrev wF := vl 0 5 0 0 0 0 0 0 0
abbrev wZ := vl 0 0 0 0 0 0 0 0 0
theorem vl_zero : (vecC fun _ => 0) = vecC wZ := rfl
theorem wV_pos : posV wV := by apply posV_vl <;> omega

theorem ok_wV : okVec wV = true := by decide
theorem with_wV : withV wV [⟨9, 1, 3⟩, ⟨9, 2, 4⟩] = (0, upd (upd wV 1) 2) := by
  rw [withV, if_pos ok_wV]
  simp [withS, Idn.ok, okId, siteB, wV, vl, maxT, upd]
theorem vec_wA : vec (upd (upd wV 1) 2) = vec (vl 0 3 4 0 0 0 0 0 0) := rfl
theorem with_gap : withV wV [⟨9, 1, 4⟩] = (231, fun _ => 0) := by
  rw [withV, if_pos ok_wV]
  simp [withS, Idn.ok, okId, siteB, wV, vl, maxT]

/-- the rows of ids that were laid last. -/
theorem IdSl_two {W : World} {b : Nat} {T : TypeId} {t s q t' s' q' : Int} (h : Blk W b T #[.int .u64 t, .int .i64 s, .int .u64 q, .int .u64 t', .int .i64 s', .int .u64 q']) : IdSl W (some ⟨b, 0, none⟩) 2 [⟨t, s, q⟩, ⟨t', s', q'⟩] :=
  ⟨rfl, by simp, .inr ⟨b, 0, rfl, h.lt, fun k i hi => by
    have hk : k < 2 := by have := (List.getElem?_eq_some_iff.1 hi).1; simpa using this
    rcases (show k = 0 ∨ k = 1 by omega) with rfl | rfl
    · obtain rfl := Option.some.inj hi
      exact ⟨h.cell 0, h.cell 1, h.cell 2⟩
    · obtain rfl := Option.some.inj hi
      exact ⟨h.cell 3, h.cell 4, h.cell 5⟩⟩⟩
theorem IdSl_one {W : World} {b : Nat} {T : TypeId} {t s q : Int} (h : Blk W b T #[.int .u64 t, .int .i64 s, .int .u64 q]) : IdSl W (some ⟨b, 0, none⟩) 1 [⟨t, s, q⟩] :=
  ⟨rfl, by simp, .inr ⟨b, 0, rfl, h.lt, fun k i hi => by
    obtain rfl : k = 0 := by have := (List.getElem?_eq_some_iff.1 hi).1; simp at this; omega
    obtain rfl := Option.some.inj hi
    exact ⟨h.cell 0, h.cell 1, h.cell 2⟩⟩⟩

theorem with2_ok (a : Option Addr) (c : Nat) (W : World) (h : IdSl W a 2 [⟨9, 1, 3⟩, ⟨9, 2, 4⟩]) :
    Calls Try.prog 17 #[vec wV, .slice a 2 c] W (Ret (.tuple #[vec (vl 0 3 4 0 0 0 0 0 0), .int .i64 0]) W) := by
  have := With_any wV wV_pos a 2 c _ W h
  rw [with_wV] at this
  exact this
theorem with1_gap (a : Option Addr) (c : Nat) (W : World) (h : IdSl W a 1 [⟨9, 1, 4⟩]) :
    Calls Try.prog 17 #[vec wV, .slice a 1 c] W (Ret (.tuple #[vec wZ, .int .i64 231]) W) := by
  have := With_any wV wV_pos a 1 c _ W h
  rw [with_gap] at this
  exact this

theorem Blk.c9v {W : World} {b : Nat} {T : TypeId} {x0 x1 x2 x3 x4 x5 x6 x7 x8 : Int} (h : Blk W b T (vecC (vl x0 x1 x2 x3 x4 x5 x6 x7 x8))) :
    W.cell? ⟨b, 0, none⟩ = some (.int .u64 x0) ∧ W.cell? ⟨b, 1, none⟩ = some (.int .u64 x1) ∧ W.cell? ⟨b, 2, none⟩ = some (.int .u64 x2) ∧ W.cell? ⟨b, 3, none⟩ = some (.int .u64 x3) ∧ W.cell? ⟨b, 4, none⟩ = some (.int .u64 x4) ∧ W.cell? ⟨b, 5, none⟩ = some (.int .u64 x5) ∧ W.cell? ⟨b, 6, none⟩ = some (.int .u64 x6) ∧ W.cell? ⟨b, 7, none⟩ = some (.int .u64 x7) ∧ W.cell? ⟨b, 8, none⟩ = some (.int .u64 x8) :=
  ⟨h.cell 0, h.cell 1, h.cell 2, h.cell 3, h.cell 4, h.cell 5, h.cell 6, h.cell 7, h.cell 8⟩
abbrev wA := vl 0 3 4 0 0 0 0 0 0
abbrev wJ := vl 0 5 3 0 0 0 0 0 0
abbrev wM := vl 0 2 0 0 0 0 0 0 0
abbrev wB := vl 0 5 3 0 0 0 0 0 1
theorem join_VF (a : Option Addr) (c : Nat) (W : World) (h : VSl W a 1 [wF]) : Calls Try.prog 8 #[vec wV, .slice a 1 c] W (Ret (.tuple #[vec wJ, .int .i64 0]) W) := Join_ok wV a 1 c [wF] W h (by decide)
theorem meet_VF (a : Option Addr) (c : Nat) (W : World) (h : VSl W a 1 [wF]) : Calls Try.prog 9 #[vec wV, .slice a 1 c] W (Ret (.tuple #[vec wM, .int .i64 0]) W) := Meet_ok wV a 1 c [wF] W h (by decide)

abbrev wC := vl 0 0 1 0 0 0 0 0 0
theorem has_12 (W : World) : Calls Try.prog 15 #[vec wV, idV 9 1 2] W (Ret (.bool true) W) := by
  have := Has_any wV wV_pos 9 1 2 W
  rwa [show hasB wV 9 1 2 = true from by decide] at this
theorem next_13 (W : World) : Calls Try.prog 16 #[vec wV, idV 9 1 3] W (Ret (.bool true) W) := by
  have := Next_any wV wV_pos 9 1 3 W
  rwa [show nextB wV 9 1 3 = true from by decide] at this
theorem covers_VC (W : World) : Calls Try.prog 10 #[vec wV, vec wC] W (Ret (.bool true) W) := by
  have := Covers_any wV wC W
  rwa [show covB wV wC = true from by decide] at this
def wL : List Str := [⟨1, 3, 5⟩, ⟨8, 1, 1⟩]
theorem lack_VB : lackR wV wB = wL := by kernel_rfl
def P47 (u : Value) (X : World) : Prop := ∃ a c, u = .slice a 2 c ∧ RowS encStr 3 X a 2 wL
theorem lacks_VB (W : World) : Calls Try.prog 11 #[vec wV, vec wB] W fun e W' => ∃ v, e = .returned v ∧ (∃ a c, v = .slice a 2 c ∧ RowS encStr 3 W' a 2 wL) ∧ Below W.heap.size W W' := by
  have := Lacks_any wV wB wV_pos W
  rw [lack_VB] at this
  exact this.mono fun e W' ⟨v, h1, h2, h3⟩ => ⟨v, h1, h2.rowS, h3⟩
theorem many_VB (W : World) : Calls Try.prog 13 #[vec wV, vec wB] W (Ret (.int .u64 4) W) := by
  have := Many_any wV wB wV_pos W
  rwa [lack_VB, show manyOf wL = 4 from by kernel_rfl] at this
theorem RowS_two {W : World} {b : Nat} {T : TypeId} (h : Blk W b T #[.int .i64 1, .int .u64 3, .int .u64 5, .int .i64 8, .int .u64 1, .int .u64 1]) : RowS encStr 3 W (some ⟨b, 0, none⟩) 2 wL :=
  ⟨rfl, by simp [wL], .inr ⟨b, 0, rfl, h.lt, fun j x hj i v hv => by
    have hj2 : j < 2 := by have := (List.getElem?_eq_some_iff.1 hj).1; simpa [wL] using this
    have hi3 : i < 3 := by have := (List.getElem?_eq_some_iff.1 hv).1; simpa [encStr] using this
    rw [h.cell]
    rcases (show j = 0 ∨ j = 1 by omega) with rfl | rfl <;> obtain rfl := Option.some.inj hj <;>
      rcases (show i = 0 ∨ i = 1 ∨ i = 2 by omega) with rfl | rfl | rfl <;> exact hv⟩⟩
theorem below_drewN {B : Nat} (w : World) (q : Nat) : Below B w (w.drewN q) := ⟨rfl, rfl, rfl, Nat.le_refl _, fun _ _ => rfl⟩
theorem equal_LL (a : Option Addr) (c b : Nat) (T : TypeId) (W : World) (h1 : RowS encStr 3 W a 2 wL) (h2 : Blk W b T #[.int .i64 1, .int .u64 3, .int .u64 5, .int .i64 8, .int .u64 1, .int .u64 1]) :
    Calls Try.prog 23 #[.slice a 2 c, .slice (some ⟨b, 0, none⟩) 2 2] W (Ret (.bool true) W) :=
  (EqualStr a _ 2 c 2 2 wL wL W h1 (RowS_two h2)).mono fun e W' ⟨h3, q, h4⟩ => ⟨by rw [h3, show Lib.allEq eqStr wL wL = true from by kernel_rfl], by rw [h4]; exact below_drewN _ _⟩

set_option maxRecDepth 100000 in
set_option maxHeartbeats 8000000 in
theorem wakes_any (w : World) : Calls Try.prog 7 #[] w (Ret (.bool true) w) := by
  have b0 := (Blk.new w 24 (vecC wZ)).alloc (.cells (vecC wZ) 24)
  have b1 := Blk.new (w.alloc (.cells (vecC wZ) 24)) 24 (vecC wZ)
  rw [World.size_alloc] at b1
  have B0 := Lib.hid b0
  have B1 := Lib.hid (b1.row_other (k := w.heap.size) (by omega) (vecC wV))
  clear b0 b1
  go_enter Try.func7, Try.ntmps7
  go_wp2_with (first | (refine L_vstore (f := wZ) (.tmp 1) (.tmp 12) wV rfl rfl B0.out ?_) | (refine L_vstore (f := wZ) (.tmp 2) (.tmp 13) wF rfl rfl B1.out ?_))
  have z0 := (B0.out.row (vecC wV)).row_other (k := w.heap.size + 1) (by omega) (vecC wF)
  have z1 := B1.out.row (vecC wF)
  have hB : Below w.heap.size w ((((w.alloc (.cells (vecC wZ) 24)).alloc (.cells (vecC wZ) 24)).setRow w.heap.size (vecC wV)).setRow (w.heap.size + 1) (vecC wF)) :=
    below_setRow (below_setRow (((Below.refl _ _).alloc (Nat.le_refl _) _).alloc (by simp) _) (Nat.le_refl _) _) (by omega) _
  change Code.wp _ _ _ _ ((((w.alloc (.cells (vecC wZ) 24)).alloc (.cells (vecC wZ) 24)).setRow w.heap.size (vecC wV)).setRow (w.heap.size + 1) (vecC wF))
  generalize World.setRow _ (w.heap.size + 1) (vecC wF) = W1 at z0 z1 hB ⊢
  have Z0 := Lib.hid z0
  have Z1 := Lib.hid z1
  have HB := Lib.hid hB
  clear z0 z1 hB B0 B1
  generalize w.heap.size + 1 = q1 at Z1 ⊢
  generalize w.heap.size = q0 at Z0 ⊢
  -- the region that makes w
  obtain ⟨S, hS⟩ : ∃ S : World → Prop, S = fun X => Below W1.heap.size W1 X := ⟨_, rfl⟩
  have HSd : Hid (∀ X, S X → Below W1.heap.size W1 X) := by intro X hX; rw [hS] at hX; exact hX
  have HSc : Hid (∀ X, S X → Blk X q0 24 (vecC wV)) := fun X hX => Z0.out.below (HSd.out X hX) Z0.out.lt
  have HSn : Hid (∀ X X', S X → Below X.heap.size X X' → S X') := by intro X X' h hb; rw [hS] at h ⊢; exact h.trans (hb.mono h.size)
  have hS0 : S W1.drew := by rw [hS]; exact (Below.refl _ _).drew
  clear hS
  refine wp_region_text_rel 9 S (fun k u X => match k with
      | 1 => u = idV 9 1 3
      | 2 => u = idV 9 2 4
      | 3 => ∃ b, u = .slice (some ⟨b, 0, none⟩) 2 2 ∧ Blk X b 38 #[.int .u64 9, .int .i64 1, .int .u64 3, .int .u64 9, .int .i64 2, .int .u64 4]
      | 4 => u = .tuple #[vec (vl 0 3 4 0 0 0 0 0 0), .int .i64 0]
      | 8 => ∃ b, u = .pointer (some ⟨b, 0, none⟩) ∧ W1.heap.size ≤ b ∧ Blk X b 24 (vecC wZ)
      | _ => True) rfl (by kernel_rfl) (by kernel_rfl) (by kernel_rfl) (by kernel_rfl) (by intro c a d v w h; cases d <;> exact h) (by rintro ⟨_, _, h⟩; cases h.1) (by
        intro k u X X' hb hF
        match k, hF with
        | 3, ⟨b, e, hb'⟩ => exact ⟨b, e, hb'.below hb hb'.lt⟩
        | 8, ⟨b, e, h0, hb'⟩ => exact ⟨b, e, h0, hb'.below hb hb'.lt⟩
        | 1, h | 2, h | 4, h => exact h
        | 0, _ | 5, _ | 6, _ | 7, _ => trivial
        | (n + 9), _ => trivial) hS0 ?_
  clear hS0
  simp only [List.take_succ_cons, List.take_zero, List.drop_succ_cons, List.drop_zero]
  refine relSeq_on rfl (fun K hK w1 hS1 hD1 => ?_)
  obtain ⟨d0, d1, d2, d3, d4, d5, d6, d7, d8⟩ := (HSc.out w1 hS1).c9v
  go_simp
  refine ⟨⟨trivial, hS1, Below.refl _ _⟩, hK _ ?_⟩
  clear hK hD1 d0 d1 d2 d3 d4 d5 d6 d7 d8 hS1 K w1
  refine relSeq_on rfl (fun K hK w1 hS1 hD1 => ?_)
  go_simp
  refine ⟨(lid_any _ _ w1).mono fun e w2 he => ⟨_, he.1, rfl, HSn.out _ _ hS1 he.2, he.2⟩, fun v hv => ?_⟩
  obtain ⟨_, _, hv⟩ := hv.out
  obtain rfl : v = idV 9 1 3 := hv
  refine hK _ ?_
  clear hK hD1 hS1 K w1 hv
  refine relSeq_on rfl (fun K hK w1 hS1 hD1 => ?_)
  go_simp
  refine ⟨(lid_any _ _ w1).mono fun e w2 he => ⟨_, he.1, rfl, HSn.out _ _ hS1 he.2, he.2⟩, fun v hv => ?_⟩
  obtain ⟨_, _, hv⟩ := hv.out
  obtain rfl : v = idV 9 2 4 := hv
  refine hK _ ?_
  clear hK hD1 hS1 K w1 hv
  refine relSeq_on rfl (fun K hK w1 hS1 hD1 => ?_)
  go_simp
  refine ⟨⟨⟨_, rfl, Blk.new _ _ _⟩, HSn.out _ _ hS1 ((Below.refl _ _).alloc (Nat.le_refl _) _), (Below.refl _ _).alloc (Nat.le_refl _) _⟩, hK _ ?_⟩
  generalize w1.heap.size = g3
  clear hK hD1 hS1 K w1
  refine relSeq_on rfl (fun K hK w1 hS1 hD1 => ?_)
  go_simp
  obtain ⟨b, e0, hb0⟩ := hD1 ⟨3, .data⟩ (by simp) rfl _ _ rfl rfl
  obtain rfl : b = g3 := by simp at e0; exact e0.symm
  refine ⟨(with2_ok _ _ w1 (IdSl_two hb0)).mono fun e w2 he => ⟨_, he.1, rfl, HSn.out _ _ hS1 he.2, he.2⟩, fun v hv => ?_⟩
  obtain ⟨_, _, hv⟩ := hv.out
  obtain rfl : v = .tuple #[vec (vl 0 3 4 0 0 0 0 0 0), .int .i64 0] := hv
  refine hK _ ?_
  clear hK hD1 hS1 K w1 hv e0 hb0
  refine relSeq_on rfl (fun K hK w1 hS1 hD1 => ?_)
  go_simp
  refine ⟨⟨trivial, hS1, Below.refl _ _⟩, hK _ ?_⟩
  clear hK hD1 hS1 K w1
  refine relSeq_on rfl (fun K hK w1 hS1 hD1 => ?_)
  go_simp
  refine ⟨⟨trivial, hS1, Below.refl _ _⟩, hK _ ?_⟩
  clear hK hD1 hS1 K w1
  refine relSeq_on rfl (fun K hK w1 hS1 hD1 => ?_)
  go_simp
  refine ⟨⟨trivial, hS1, Below.refl _ _⟩, hK _ ?_⟩
  clear hK hD1 hS1 K w1
  refine relSeq_on rfl (fun K hK w1 hS1 hD1 => ?_)
  go_simp
  refine ⟨⟨⟨_, rfl, (HSd.out w1 hS1).size, Blk.new _ _ _⟩, HSn.out _ _ hS1 ((Below.refl _ _).alloc (Nat.le_refl _) _), (Below.refl _ _).alloc (Nat.le_refl _) _⟩, hK _ ?_⟩
  generalize w1.heap.size = g8
  clear hK hD1 hS1 K w1
  refine relSeq_nil ?_
  intro listed w2 hS2 hF2 hl2
  obtain ⟨b3, e0, hlt8, hb8⟩ := hF2 8 _ _ rfl rfl (hl2 8 (by omega))
  obtain rfl : b3 = g8 := by simp at e0; exact e0.symm
  have HB8 := Lib.hid hb8
  have HBW := Lib.hid (HSd.out w2 hS2)
  clear hF2 hl2 e0 hb8 HSc HSn HSd hS2
  go_wp2_with (refine L_vstore (f := wZ) (.tmp 3) (.tmp 20) (vl 0 3 4 0 0 0 0 0 0) rfl rfl HB8.out ?_)
  have y0 := (Z0.out.below HBW.out Z0.out.lt).row_other (k := b3) (by have := Z0.out.lt; omega) (vecC wA)
  have y1 := (Z1.out.below HBW.out Z1.out.lt).row_other (k := b3) (by have := Z1.out.lt; omega) (vecC wA)
  have y2 := HB8.out.row (vecC wA)
  have hB := below_setRow (HB.out.trans (HBW.out.mono HB.out.size)) (by have := HB.out.size; omega) (vecC wA) (g := b3)
  change Code.wp _ _ _ _ (w2.setRow b3 (vecC wA))
  generalize World.setRow w2 b3 (vecC wA) = W2 at y0 y1 y2 hB ⊢
  have Y0 := Lib.hid y0
  have Y1 := Lib.hid y1
  have Y2 := Lib.hid y2
  have HB2 := Lib.hid hB
  clear y0 y1 y2 hB HB8 HBW Z0 Z1 HB hlt8
  -- the region of the gap
  obtain ⟨S, hS⟩ : ∃ S : World → Prop, S = fun X => Below W2.heap.size W2 X := ⟨_, rfl⟩
  have HSd : Hid (∀ X, S X → Below W2.heap.size W2 X) := by intro X hX; rw [hS] at hX; exact hX
  have HSc : Hid (∀ X, S X → Blk X q0 24 (vecC wV)) := fun X hX => Y0.out.below (HSd.out X hX) Y0.out.lt
  have HSn : Hid (∀ X X', S X → Below X.heap.size X X' → S X') := by intro X X' h hb; rw [hS] at h ⊢; exact h.trans (hb.mono h.size)
  have hS0 : S W2.drew := by rw [hS]; exact (Below.refl _ _).drew
  clear hS
  refine wp_region_text_rel 8 S (fun k u X => match k with
      | 1 => u = idV 9 1 4
      | 2 => ∃ b, u = .slice (some ⟨b, 0, none⟩) 1 1 ∧ Blk X b 38 #[.int .u64 9, .int .i64 1, .int .u64 4]
      | 3 => u = .tuple #[vec wZ, .int .i64 231]
      | 7 => ∃ b, u = .pointer (some ⟨b, 0, none⟩) ∧ W2.heap.size ≤ b ∧ Blk X b 24 (vecC wZ)
      | _ => True) rfl (by kernel_rfl) (by kernel_rfl) (by kernel_rfl) (by kernel_rfl) (by intro c a d v w h; cases d <;> exact h) (by rintro ⟨_, _, h⟩; cases h.1) (by
        intro k u X X' hb hF
        match k, hF with
        | 2, ⟨b, e, hb'⟩ => exact ⟨b, e, hb'.below hb hb'.lt⟩
        | 7, ⟨b, e, h0, hb'⟩ => exact ⟨b, e, h0, hb'.below hb hb'.lt⟩
        | 1, h | 3, h => exact h
        | 0, _ | 4, _ | 5, _ | 6, _ => trivial
        | (n + 8), _ => trivial) hS0 ?_
  clear hS0
  simp only [List.take_succ_cons, List.take_zero, List.drop_succ_cons, List.drop_zero]
  refine relSeq_on rfl (fun K hK w1 hS1 hD1 => ?_)
  obtain ⟨d0, d1, d2, d3, d4, d5, d6, d7, d8⟩ := (HSc.out w1 hS1).c9v
  go_simp
  refine ⟨⟨trivial, hS1, Below.refl _ _⟩, hK _ ?_⟩
  clear hK hD1 d0 d1 d2 d3 d4 d5 d6 d7 d8 hS1 K w1
  refine relSeq_on rfl (fun K hK w1 hS1 hD1 => ?_)
  go_simp
  refine ⟨(lid_any _ _ w1).mono fun e w2 he => ⟨_, he.1, rfl, HSn.out _ _ hS1 he.2, he.2⟩, fun v hv => ?_⟩
  obtain ⟨_, _, hv⟩ := hv.out
  obtain rfl : v = idV 9 1 4 := hv
  refine hK _ ?_
  clear hK hD1 hS1 K w1 hv
  refine relSeq_on rfl (fun K hK w1 hS1 hD1 => ?_)
  go_simp
  refine ⟨⟨⟨_, rfl, Blk.new _ _ _⟩, HSn.out _ _ hS1 ((Below.refl _ _).alloc (Nat.le_refl _) _), (Below.refl _ _).alloc (Nat.le_refl _) _⟩, hK _ ?_⟩
  generalize w1.heap.size = g3
  clear hK hD1 hS1 K w1
  refine relSeq_on rfl (fun K hK w1 hS1 hD1 => ?_)
  go_simp
  obtain ⟨b, e0, hb0⟩ := hD1 ⟨2, .data⟩ (by simp) rfl _ _ rfl rfl
  obtain rfl : b = g3 := by simp at e0; exact e0.symm
  refine ⟨(with1_gap _ _ w1 (IdSl_one hb0)).mono fun e w2 he => ⟨_, he.1, rfl, HSn.out _ _ hS1 he.2, he.2⟩, fun v hv => ?_⟩
  obtain ⟨_, _, hv⟩ := hv.out
  obtain rfl : v = .tuple #[vec wZ, .int .i64 231] := hv
  refine hK _ ?_
  clear hK hD1 hS1 K w1 hv e0 hb0
  refine relSeq_on rfl (fun K hK w1 hS1 hD1 => ?_)
  go_simp
  refine ⟨⟨trivial, hS1, Below.refl _ _⟩, hK _ ?_⟩
  clear hK hD1 hS1 K w1
  refine relSeq_on rfl (fun K hK w1 hS1 hD1 => ?_)
  go_simp
  refine ⟨⟨trivial, hS1, Below.refl _ _⟩, hK _ ?_⟩
  clear hK hD1 hS1 K w1
  refine relSeq_on rfl (fun K hK w1 hS1 hD1 => ?_)
  go_simp
  refine ⟨⟨trivial, hS1, Below.refl _ _⟩, hK _ ?_⟩
  clear hK hD1 hS1 K w1
  refine relSeq_on rfl (fun K hK w1 hS1 hD1 => ?_)
  go_simp
  refine ⟨⟨⟨_, rfl, (HSd.out w1 hS1).size, Blk.new _ _ _⟩, HSn.out _ _ hS1 ((Below.refl _ _).alloc (Nat.le_refl _) _), (Below.refl _ _).alloc (Nat.le_refl _) _⟩, hK _ ?_⟩
  generalize w1.heap.size = g8
  clear hK hD1 hS1 K w1
  refine relSeq_nil ?_
  intro listed w3 hS2 hF2 hl2
  obtain ⟨b5, e0, hlt8, hb8⟩ := hF2 7 _ _ rfl rfl (hl2 7 (by omega))
  obtain rfl : b5 = g8 := by simp at e0; exact e0.symm
  have HB8 := Lib.hid hb8
  have HBW := Lib.hid (HSd.out w3 hS2)
  have HL := Lib.hid hlt8
  clear hF2 hl2 e0 hb8 HSc HSn HSd hS2 hlt8
  go_wp2_with (first
    | (refine L_vstore (f := wZ) (.tmp 5) (.tmp 27) wZ rfl rfl HB8.out ?_
       have X0 : Hid (Blk (w3.setRow b5 (vecC wZ)) q0 24 (vecC wV)) := (Y0.out.below HBW.out Y0.out.lt).row_other (by have := Y0.out.lt; have := HL.out; omega) _
       have X1 : Hid (Blk (w3.setRow b5 (vecC wZ)) q1 24 (vecC wF)) := (Y1.out.below HBW.out Y1.out.lt).row_other (by have := Y1.out.lt; have := HL.out; omega) _
       have X2 : Hid (Blk (w3.setRow b5 (vecC wZ)) b3 24 (vecC wA)) := (Y2.out.below HBW.out Y2.out.lt).row_other (by have := Y2.out.lt; have := HL.out; omega) _
       have HB3 : Hid (Below w.heap.size w (w3.setRow b5 (vecC wZ))) := below_setRow (HB2.out.trans (HBW.out.mono HB2.out.size)) (by have := HB2.out.size; have := HL.out; omega) _
       clear HL HB8 HBW Y0 Y1 Y2 HB2
       generalize World.setRow w3 b5 (vecC wZ) = W3 at X0 X1 X2 HB3 ⊢
       obtain ⟨d0, d1, d2, d3, d4, d5, d6, d7, d8⟩ := X0.out.c9
       obtain ⟨e0, e1, e2, e3, e4, e5, e6, e7, e8⟩ := X1.out.c9)
    | (go_at_call 8
       refine (join_VF _ _ _ (VSl_one (g := wF) (Blk.new _ _ _))).mono ?_
       rintro e W4 ⟨rfl, hb⟩
       have HW : Hid (Below W3.heap.size W3 W4) := Below.trans ((Below.refl _ _).alloc (Nat.le_refl _) _) (hb.mono (by simp))
       clear hb d0 d1 d2 d3 d4 d5 d6 d7 d8 e0 e1 e2 e3 e4 e5 e6 e7 e8)
    | (refine L_vstore_new (f := wZ) (.tmp 7) (.tmp 34) wJ rfl rfl ?_
       have HU := Lib.hid (HW.out.alloc HW.out.size (.cells (vecC wJ) 24))
       have V3 : Hid (Blk (W4.alloc (.cells (vecC wJ) 24)) W4.heap.size 24 (vecC wJ)) := Blk.new _ _ _
       have V0 := Lib.hid (X0.out.below HU.out X0.out.lt)
       have V1 := Lib.hid (X1.out.below HU.out X1.out.lt)
       have V2 := Lib.hid (X2.out.below HU.out X2.out.lt)
       have HB4 := Lib.hid (HB3.out.trans (HU.out.mono HB3.out.size))
       clear HW HU X0 X1 X2 HB3
       generalize W4.alloc (.cells (vecC wJ) 24) = W5 at V0 V1 V2 V3 HB4 ⊢
       generalize W4.heap.size = b7 at V3 ⊢
       obtain ⟨d0, d1, d2, d3, d4, d5, d6, d7, d8⟩ := V0.out.c9
       obtain ⟨e0, e1, e2, e3, e4, e5, e6, e7, e8⟩ := V1.out.c9)
    | (go_at_call 9
       refine (meet_VF _ _ _ (VSl_one (g := wF) (Blk.new _ _ _))).mono ?_
       rintro e W6 ⟨rfl, hb⟩
       have HW : Hid (Below W5.heap.size W5 W6) := Below.trans ((Below.refl _ _).alloc (Nat.le_refl _) _) (hb.mono (by simp))
       clear hb d0 d1 d2 d3 d4 d5 d6 d7 d8 e0 e1 e2 e3 e4 e5 e6 e7 e8)
    | (refine L_vstore_new (f := wZ) (.tmp 9) (.tmp 41) wM rfl rfl ?_
       have HU := Lib.hid (HW.out.alloc HW.out.size (.cells (vecC wM) 24))
       have U4 : Hid (Blk (W6.alloc (.cells (vecC wM) 24)) W6.heap.size 24 (vecC wM)) := Blk.new _ _ _
       have U0 := Lib.hid (V0.out.below HU.out V0.out.lt)
       have U2 := Lib.hid (V2.out.below HU.out V2.out.lt)
       have U3 := Lib.hid (V3.out.below HU.out V3.out.lt)
       have HB5 := Lib.hid (HB4.out.trans (HU.out.mono HB4.out.size))
       clear HW HU V0 V1 V2 V3 HB4
       generalize W6.alloc (.cells (vecC wM) 24) = W7 at U0 U2 U3 U4 HB5 ⊢
       generalize W6.heap.size = b9 at U4 ⊢)
    | (refine L_vstore_new (f := wZ) (.tmp 11) (.tmp 43) wB rfl rfl ?_
       have T0 := Lib.hid (U0.out.alloc (.cells (vecC wB) 24))
       have T2 := Lib.hid (U2.out.alloc (.cells (vecC wB) 24))
       have T3 := Lib.hid (U3.out.alloc (.cells (vecC wB) 24))
       have T4 := Lib.hid (U4.out.alloc (.cells (vecC wB) 24))
       have T5 : Hid (Blk (W7.alloc (.cells (vecC wB) 24)) W7.heap.size 24 (vecC wB)) := Blk.new _ _ _
       have HB6 := Lib.hid (HB5.out.alloc HB5.out.size (.cells (vecC wB) 24))
       clear U0 U2 U3 U4 HB5
       generalize W7.alloc (.cells (vecC wB) 24) = W8 at T0 T2 T3 T4 T5 HB6 ⊢
       generalize W7.heap.size = b11 at T5 ⊢))
  obtain ⟨S, hS⟩ : ∃ S : World → Prop, S = fun X => Below W8.heap.size W8 X := ⟨_, rfl⟩
  have HSd : Hid (∀ X, S X → Below W8.heap.size W8 X) := by intro X hX; rw [hS] at hX; exact hX
  have HV : Hid (∀ X, S X → Blk X q0 24 (vecC wV)) := fun X hX => T0.out.below (HSd.out X hX) T0.out.lt
  have HA : Hid (∀ X, S X → Blk X b3 24 (vecC wA)) := fun X hX => T2.out.below (HSd.out X hX) T2.out.lt
  have HJ : Hid (∀ X, S X → Blk X b7 24 (vecC wJ)) := fun X hX => T3.out.below (HSd.out X hX) T3.out.lt
  have HM : Hid (∀ X, S X → Blk X b9 24 (vecC wM)) := fun X hX => T4.out.below (HSd.out X hX) T4.out.lt
  have HBB : Hid (∀ X, S X → Blk X b11 24 (vecC wB)) := fun X hX => T5.out.below (HSd.out X hX) T5.out.lt
  have HSn : Hid (∀ X X', S X → Below X.heap.size X X' → S X') := by intro X X' h hb; rw [hS] at h ⊢; exact h.trans (hb.mono h.size)
  have hS0 : S W8.drew := by rw [hS]; exact (Below.refl _ _).drew
  clear hS
  refine wp_region_held_rel 59 S (fun k u X => match k with
      | 31 => u = idV 9 1 2
      | 32 => u = .bool true
      | 36 => u = idV 9 1 3
      | 37 => u = .bool true
      | 42 => u = .bool true
      | 47 => P47 u X
      | 50 => ∃ b, u = .slice (some ⟨b, 0, none⟩) 2 2 ∧ Blk X b 36 #[.int .i64 1, .int .u64 3, .int .u64 5, .int .i64 8, .int .u64 1, .int .u64 1]
      | 51 => u = .bool true
      | 56 => u = .int .u64 4
      | _ => True) rfl (by kernel_rfl) (by kernel_rfl) (by kernel_rfl) (by
        intro k u X X' hb hF
        revert hF
        split <;> intro hF
        case h_6 => obtain ⟨a, c, e, h⟩ := hF; exact ⟨a, c, e, h.below hb⟩
        case h_7 => obtain ⟨b, e, h⟩ := hF; exact ⟨b, e, h.below hb h.lt⟩
        all_goals exact hF) hS0 ?_
  clear hS0 T0 T2 T3 T4 T5
  simp only [List.take_succ_cons, List.take_zero, List.drop_succ_cons, List.drop_zero]
  refine relSeq_on rfl (fun K hK w1 hS1 hD1 => ?_)
  go_simp
  refine ⟨⟨trivial, hS1, Below.refl _ _⟩, hK _ ?_⟩
  clear hK hD1 hS1 K w1
  refine relSeq_on rfl (fun K hK w1 hS1 hD1 => ?_)
  go_simp
  refine ⟨⟨trivial, hS1, Below.refl _ _⟩, hK _ ?_⟩
  clear hK hD1 hS1 K w1
  refine relSeq_on rfl (fun K hK w1 hS1 hD1 => ?_)
  go_simp
  refine ⟨⟨trivial, hS1, Below.refl _ _⟩, hK _ ?_⟩
  clear hK hD1 hS1 K w1
  refine relSeq_on rfl (fun K hK w1 hS1 hD1 => ?_)
  go_simp
  refine ⟨⟨trivial, hS1, Below.refl _ _⟩, hK _ ?_⟩
  clear hK hD1 hS1 K w1
  refine relSeq_on rfl (fun K hK w1 hS1 hD1 => ?_)
  go_simp
  refine ⟨⟨trivial, hS1, Below.refl _ _⟩, hK _ ?_⟩
  clear hK hD1 hS1 K w1
  refine relSeq_on rfl (fun K hK w1 hS1 hD1 => ?_)
  go_simp
  refine ⟨⟨trivial, hS1, Below.refl _ _⟩, hK _ ?_⟩
  clear hK hD1 hS1 K w1
  refine relSeq_on rfl (fun K hK w1 hS1 hD1 => ?_)
  go_simp
  refine ⟨⟨trivial, hS1, Below.refl _ _⟩, hK _ ?_⟩
  clear hK hD1 hS1 K w1
  refine relSeq_on rfl (fun K hK w1 hS1 hD1 => ?_)
  go_simp
  refine ⟨⟨trivial, hS1, Below.refl _ _⟩, hK _ ?_⟩
  clear hK hD1 hS1 K w1
  refine relSeq_on rfl (fun K hK w1 hS1 hD1 => ?_)
  go_simp
  refine ⟨⟨trivial, hS1, Below.refl _ _⟩, hK _ ?_⟩
  clear hK hD1 hS1 K w1
  refine relSeq_on rfl (fun K hK w1 hS1 hD1 => ?_)
  go_simp
  refine ⟨⟨trivial, hS1, Below.refl _ _⟩, hK _ ?_⟩
  clear hK hD1 hS1 K w1
  refine relSeq_on rfl (fun K hK w1 hS1 hD1 => ?_)
  go_simp
  refine ⟨⟨trivial, hS1, Below.refl _ _⟩, hK _ ?_⟩
  clear hK hD1 hS1 K w1
  refine relSeq_on rfl (fun K hK w1 hS1 hD1 => ?_)
  go_simp
  refine ⟨⟨trivial, hS1, Below.refl _ _⟩, hK _ ?_⟩
  clear hK hD1 hS1 K w1
  refine relSeq_on rfl (fun K hK w1 hS1 hD1 => ?_)
  go_simp
  refine ⟨⟨trivial, hS1, Below.refl _ _⟩, hK _ ?_⟩
  clear hK hD1 hS1 K w1
  refine relSeq_on rfl (fun K hK w1 hS1 hD1 => ?_)
  go_simp
  refine ⟨⟨trivial, hS1, Below.refl _ _⟩, hK _ ?_⟩
  clear hK hD1 hS1 K w1
  refine relSeq_on rfl (fun K hK w1 hS1 hD1 => ?_)
  go_simp
  refine ⟨⟨trivial, hS1, Below.refl _ _⟩, hK _ ?_⟩
  clear hK hD1 hS1 K w1
  refine relSeq_on rfl (fun K hK w1 hS1 hD1 => ?_)
  obtain ⟨d0, d1, d2, d3, d4, d5, d6, d7, d8⟩ := (HA.out w1 hS1).c9v
  go_simp
  refine ⟨⟨trivial, hS1, Below.refl _ _⟩, hK _ ?_⟩
  clear hK hD1 d0 d1 d2 d3 d4 d5 d6 d7 d8 hS1 K w1
  refine relSeq_on rfl (fun K hK w1 hS1 hD1 => ?_)
  go_simp
  refine ⟨⟨trivial, hS1, Below.refl _ _⟩, hK _ ?_⟩
  clear hK hD1 hS1 K w1
  refine relSeq_on rfl (fun K hK w1 hS1 hD1 => ?_)
  go_simp
  refine ⟨⟨trivial, hS1, Below.refl _ _⟩, hK _ ?_⟩
  clear hK hD1 hS1 K w1
  refine relSeq_on rfl (fun K hK w1 hS1 hD1 => ?_)
  go_simp
  refine ⟨⟨trivial, hS1, Below.refl _ _⟩, hK _ ?_⟩
  clear hK hD1 hS1 K w1
  refine relSeq_on rfl (fun K hK w1 hS1 hD1 => ?_)
  go_simp
  refine ⟨⟨trivial, hS1, Below.refl _ _⟩, hK _ ?_⟩
  clear hK hD1 hS1 K w1
  refine relSeq_on rfl (fun K hK w1 hS1 hD1 => ?_)
  obtain ⟨d0, d1, d2, d3, d4, d5, d6, d7, d8⟩ := (HJ.out w1 hS1).c9v
  go_simp
  refine ⟨⟨trivial, hS1, Below.refl _ _⟩, hK _ ?_⟩
  clear hK hD1 d0 d1 d2 d3 d4 d5 d6 d7 d8 hS1 K w1
  refine relSeq_on rfl (fun K hK w1 hS1 hD1 => ?_)
  go_simp
  refine ⟨⟨trivial, hS1, Below.refl _ _⟩, hK _ ?_⟩
  clear hK hD1 hS1 K w1
  refine relSeq_on rfl (fun K hK w1 hS1 hD1 => ?_)
  go_simp
  refine ⟨⟨trivial, hS1, Below.refl _ _⟩, hK _ ?_⟩
  clear hK hD1 hS1 K w1
  refine relSeq_on rfl (fun K hK w1 hS1 hD1 => ?_)
  go_simp
  refine ⟨⟨trivial, hS1, Below.refl _ _⟩, hK _ ?_⟩
  clear hK hD1 hS1 K w1
  refine relSeq_on rfl (fun K hK w1 hS1 hD1 => ?_)
  go_simp
  refine ⟨⟨trivial, hS1, Below.refl _ _⟩, hK _ ?_⟩
  clear hK hD1 hS1 K w1
  refine relSeq_on rfl (fun K hK w1 hS1 hD1 => ?_)
  obtain ⟨d0, d1, d2, d3, d4, d5, d6, d7, d8⟩ := (HM.out w1 hS1).c9v
  go_simp
  refine ⟨⟨trivial, hS1, Below.refl _ _⟩, hK _ ?_⟩
  clear hK hD1 d0 d1 d2 d3 d4 d5 d6 d7 d8 hS1 K w1
  refine relSeq_on rfl (fun K hK w1 hS1 hD1 => ?_)
  go_simp
  refine ⟨⟨trivial, hS1, Below.refl _ _⟩, hK _ ?_⟩
  clear hK hD1 hS1 K w1
  refine relSeq_on rfl (fun K hK w1 hS1 hD1 => ?_)
  go_simp
  refine ⟨⟨trivial, hS1, Below.refl _ _⟩, hK _ ?_⟩
  clear hK hD1 hS1 K w1
  refine relSeq_on rfl (fun K hK w1 hS1 hD1 => ?_)
  go_simp
  refine ⟨⟨trivial, hS1, Below.refl _ _⟩, hK _ ?_⟩
  clear hK hD1 hS1 K w1
  refine relSeq_on rfl (fun K hK w1 hS1 hD1 => ?_)
  go_simp
  refine ⟨⟨trivial, hS1, Below.refl _ _⟩, hK _ ?_⟩
  clear hK hD1 hS1 K w1
  refine relSeq_on rfl (fun K hK w1 hS1 hD1 => ?_)
  obtain ⟨d0, d1, d2, d3, d4, d5, d6, d7, d8⟩ := (HV.out w1 hS1).c9v
  go_simp
  refine ⟨⟨trivial, hS1, Below.refl _ _⟩, hK _ ?_⟩
  clear hK hD1 d0 d1 d2 d3 d4 d5 d6 d7 d8 hS1 K w1
  refine relSeq_on rfl (fun K hK w1 hS1 hD1 => ?_)
  go_simp
  refine ⟨(lid_any _ _ w1).mono fun e w2 he => ⟨_, he.1, rfl, HSn.out _ _ hS1 he.2, he.2⟩, fun v hv => ?_⟩
  obtain ⟨_, _, hv⟩ := hv.out
  obtain rfl : v = idV 9 1 2 := hv
  refine hK _ ?_
  clear hK hD1 hS1 K w1 hv
  refine relSeq_on rfl (fun K hK w1 hS1 hD1 => ?_)
  go_simp
  refine ⟨(has_12 w1).mono fun e w2 he => ⟨_, he.1, rfl, HSn.out _ _ hS1 he.2, he.2⟩, fun v hv => ?_⟩
  obtain ⟨_, _, hv⟩ := hv.out
  obtain rfl : v = .bool true := hv
  refine hK _ ?_
  clear hK hD1 hS1 K w1 hv
  refine relSeq_on rfl (fun K hK w1 hS1 hD1 => ?_)
  go_simp
  refine ⟨⟨trivial, hS1, Below.refl _ _⟩, hK _ ?_⟩
  clear hK hD1 hS1 K w1
  refine relSeq_on rfl (fun K hK w1 hS1 hD1 => ?_)
  go_simp
  refine ⟨⟨trivial, hS1, Below.refl _ _⟩, hK _ ?_⟩
  clear hK hD1 hS1 K w1
  refine relSeq_on rfl (fun K hK w1 hS1 hD1 => ?_)
  obtain ⟨d0, d1, d2, d3, d4, d5, d6, d7, d8⟩ := (HV.out w1 hS1).c9v
  go_simp
  refine ⟨⟨trivial, hS1, Below.refl _ _⟩, hK _ ?_⟩
  clear hK hD1 d0 d1 d2 d3 d4 d5 d6 d7 d8 hS1 K w1
  refine relSeq_on rfl (fun K hK w1 hS1 hD1 => ?_)
  go_simp
  refine ⟨(lid_any _ _ w1).mono fun e w2 he => ⟨_, he.1, rfl, HSn.out _ _ hS1 he.2, he.2⟩, fun v hv => ?_⟩
  obtain ⟨_, _, hv⟩ := hv.out
  obtain rfl : v = idV 9 1 3 := hv
  refine hK _ ?_
  clear hK hD1 hS1 K w1 hv
  refine relSeq_on rfl (fun K hK w1 hS1 hD1 => ?_)
  go_simp
  refine ⟨(next_13 w1).mono fun e w2 he => ⟨_, he.1, rfl, HSn.out _ _ hS1 he.2, he.2⟩, fun v hv => ?_⟩
  obtain ⟨_, _, hv⟩ := hv.out
  obtain rfl : v = .bool true := hv
  refine hK _ ?_
  clear hK hD1 hS1 K w1 hv
  refine relSeq_on rfl (fun K hK w1 hS1 hD1 => ?_)
  go_simp
  refine ⟨⟨trivial, hS1, Below.refl _ _⟩, hK _ ?_⟩
  clear hK hD1 hS1 K w1
  refine relSeq_on rfl (fun K hK w1 hS1 hD1 => ?_)
  go_simp
  refine ⟨⟨trivial, hS1, Below.refl _ _⟩, hK _ ?_⟩
  clear hK hD1 hS1 K w1
  refine relSeq_on rfl (fun K hK w1 hS1 hD1 => ?_)
  obtain ⟨d0, d1, d2, d3, d4, d5, d6, d7, d8⟩ := (HV.out w1 hS1).c9v
  go_simp
  refine ⟨⟨trivial, hS1, Below.refl _ _⟩, hK _ ?_⟩
  clear hK hD1 d0 d1 d2 d3 d4 d5 d6 d7 d8 hS1 K w1
  refine relSeq_on rfl (fun K hK w1 hS1 hD1 => ?_)
  go_simp
  refine ⟨⟨trivial, hS1, Below.refl _ _⟩, hK _ ?_⟩
  clear hK hD1 hS1 K w1
  refine relSeq_on rfl (fun K hK w1 hS1 hD1 => ?_)
  go_simp
  refine ⟨(covers_VC w1).mono fun e w2 he => ⟨_, he.1, rfl, HSn.out _ _ hS1 he.2, he.2⟩, fun v hv => ?_⟩
  obtain ⟨_, _, hv⟩ := hv.out
  obtain rfl : v = .bool true := hv
  refine hK _ ?_
  clear hK hD1 hS1 K w1 hv
  refine relSeq_on rfl (fun K hK w1 hS1 hD1 => ?_)
  go_simp
  refine ⟨⟨trivial, hS1, Below.refl _ _⟩, hK _ ?_⟩
  clear hK hD1 hS1 K w1
  refine relSeq_on rfl (fun K hK w1 hS1 hD1 => ?_)
  go_simp
  refine ⟨⟨trivial, hS1, Below.refl _ _⟩, hK _ ?_⟩
  clear hK hD1 hS1 K w1
  refine relSeq_on rfl (fun K hK w1 hS1 hD1 => ?_)
  obtain ⟨d0, d1, d2, d3, d4, d5, d6, d7, d8⟩ := (HV.out w1 hS1).c9v
  go_simp
  refine ⟨⟨trivial, hS1, Below.refl _ _⟩, hK _ ?_⟩
  clear hK hD1 d0 d1 d2 d3 d4 d5 d6 d7 d8 hS1 K w1
  refine relSeq_on rfl (fun K hK w1 hS1 hD1 => ?_)
  obtain ⟨d0, d1, d2, d3, d4, d5, d6, d7, d8⟩ := (HBB.out w1 hS1).c9v
  go_simp
  refine ⟨⟨trivial, hS1, Below.refl _ _⟩, hK _ ?_⟩
  clear hK hD1 d0 d1 d2 d3 d4 d5 d6 d7 d8 hS1 K w1
  refine relSeq_on rfl (fun K hK w1 hS1 hD1 => ?_)
  go_simp
  refine ⟨(lacks_VB w1).mono fun e w2 ⟨v, h1, h2, h3⟩ => ⟨v, h1, h2, HSn.out _ _ hS1 h3, h3⟩, fun v hv => ?_⟩
  obtain ⟨_, _, la, lc, rfl, _⟩ := hv.out
  refine hK _ ?_
  clear hK hD1 hS1 K w1 hv
  refine relSeq_on rfl (fun K hK w1 hS1 hD1 => ?_)
  go_simp
  refine ⟨⟨trivial, hS1, Below.refl _ _⟩, hK _ ?_⟩
  clear hK hD1 hS1 K w1
  refine relSeq_on rfl (fun K hK w1 hS1 hD1 => ?_)
  go_simp
  refine ⟨⟨trivial, hS1, Below.refl _ _⟩, hK _ ?_⟩
  clear hK hD1 hS1 K w1
  refine relSeq_on rfl (fun K hK w1 hS1 hD1 => ?_)
  go_simp
  refine ⟨⟨⟨_, rfl, Blk.new _ _ _⟩, HSn.out _ _ hS1 ((Below.refl _ _).alloc (Nat.le_refl _) _), (Below.refl _ _).alloc (Nat.le_refl _) _⟩, hK _ ?_⟩
  generalize w1.heap.size = g50
  clear hK hD1 hS1 K w1
  refine relSeq_on rfl (fun K hK w1 hS1 hD1 => ?_)
  go_simp
  obtain ⟨a1, c1, e1, h1⟩ := hD1 ⟨47, .data⟩ (by simp) rfl _ _ rfl rfl
  obtain ⟨b1, e2, h2⟩ := hD1 ⟨50, .data⟩ (by simp) rfl _ _ rfl rfl
  obtain rfl : b1 = g50 := by simp at e2; exact e2.symm
  obtain rfl : a1 = la := by simp at e1; exact e1.1.symm
  clear e1 e2
  refine ⟨(equal_LL _ _ _ _ w1 h1 h2).mono fun e w2 he => ⟨_, he.1, rfl, HSn.out _ _ hS1 he.2, he.2⟩, fun v hv => ?_⟩
  obtain ⟨_, _, hv⟩ := hv.out
  obtain rfl : v = .bool true := hv
  refine hK _ ?_
  clear hK hD1 hS1 K w1 hv h1 h2
  refine relSeq_on rfl (fun K hK w1 hS1 hD1 => ?_)
  go_simp
  refine ⟨⟨trivial, hS1, Below.refl _ _⟩, hK _ ?_⟩
  clear hK hD1 hS1 K w1
  refine relSeq_on rfl (fun K hK w1 hS1 hD1 => ?_)
  go_simp
  refine ⟨⟨trivial, hS1, Below.refl _ _⟩, hK _ ?_⟩
  clear hK hD1 hS1 K w1
  refine relSeq_on rfl (fun K hK w1 hS1 hD1 => ?_)
  obtain ⟨d0, d1, d2, d3, d4, d5, d6, d7, d8⟩ := (HV.out w1 hS1).c9v
  go_simp
  refine ⟨⟨trivial, hS1, Below.refl _ _⟩, hK _ ?_⟩
  clear hK hD1 d0 d1 d2 d3 d4 d5 d6 d7 d8 hS1 K w1
  refine relSeq_on rfl (fun K hK w1 hS1 hD1 => ?_)
  obtain ⟨d0, d1, d2, d3, d4, d5, d6, d7, d8⟩ := (HBB.out w1 hS1).c9v
  go_simp
  refine ⟨⟨trivial, hS1, Below.refl _ _⟩, hK _ ?_⟩
  clear hK hD1 d0 d1 d2 d3 d4 d5 d6 d7 d8 hS1 K w1
  refine relSeq_on rfl (fun K hK w1 hS1 hD1 => ?_)
  go_simp
  refine ⟨(many_VB w1).mono fun e w2 he => ⟨_, he.1, rfl, HSn.out _ _ hS1 he.2, he.2⟩, fun v hv => ?_⟩
  obtain ⟨_, _, hv⟩ := hv.out
  obtain rfl : v = .int .u64 4 := hv
  refine hK _ ?_
  clear hK hD1 hS1 K w1 hv
  refine relSeq_on rfl (fun K hK w1 hS1 hD1 => ?_)
  go_simp
  refine ⟨⟨trivial, hS1, Below.refl _ _⟩, hK _ ?_⟩
  clear hK hD1 hS1 K w1
  refine relSeq_on rfl (fun K hK w1 hS1 hD1 => ?_)
  go_simp
  refine ⟨⟨trivial, hS1, Below.refl _ _⟩, hK _ ?_⟩
  clear hK hD1 hS1 K w1
  refine relSeq_nil ?_
  intro listed w9 hS2 hF2 hl2
  have HBW := Lib.hid (HSd.out w9 hS2)
  clear hF2 hl2 HSd HSn HV HA HJ HM HBB hS2
  go_wp2
  go_ret
  exact ⟨rfl, HB6.out.trans (HBW.out.mono HB6.out.size)⟩
end Go.Proofs.Ytoiaecfiinkmjaa
