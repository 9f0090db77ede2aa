/- gessoref13.Covers, gessoref13.Many: their contracts. -/
import Derived.Test.YtoiaecfiinkmjaaRefRight
import Derived.Test.YtoiaecfiinkmjaaFills2
import Derived.Deep.DeepCutAuto
namespace Go.Proofs.Ytoiaecfiinkmjaa
open Go.RowKit Go.Shelf

set_option maxRecDepth 100000 in
set_option maxHeartbeats 1000000 in
theorem RCovers_any (f g : Nat → Int) (w : World) : Calls Try.prog 22 #[vec f, vec g] w (Ret (.bool (covB f g)) w) := by
  obtain ⟨W0, hW0⟩ : ∃ W0, (w.alloc (.cells (vecC f) 24)).alloc (.cells (vecC g) 24) = W0 := ⟨_, rfl⟩
  have HT : Hid (Two W0 w.heap.size (w.heap.size + 1) f g) := by rw [← hW0]; exact Two.of (Below.refl _ _)
  have HW : Hid (Below w.heap.size w W0) := by rw [← hW0]; show Below _ _ _; go_grown
  have HE := Lib.hid hW0
  clear hW0
  go_enter Try.func22, Try.ntmps22
  unfold vec
  go_upto_region 1 with fail
  rw [show ∀ T, (w.alloc (.cells #[.int .u64 (f 0), .int .u64 (f 1), .int .u64 (f 2), .int .u64 (f 3), .int .u64 (f 4), .int .u64 (f 5), .int .u64 (f 6), .int .u64 (f 7), .int .u64 (f 8)] T)).alloc (.cells #[.int .u64 (g 0), .int .u64 (g 1), .int .u64 (g 2), .int .u64 (g 3), .int .u64 (g 4), .int .u64 (g 5), .int .u64 (g 6), .int .u64 (g 7), .int .u64 (g 8)] T) = (w.alloc (.cells (vecC f) T)).alloc (.cells (vecC g) T) from fun _ => rfl, HE.out]
  have H2 := HT
  obtain ⟨c0, c1, c2, c3, c4, c5, c6, c7, c8⟩ := HT.out.1.c9
  obtain ⟨d0, d1, d2, d3, d4, d5, d6, d7, d8⟩ := HT.out.2.c9
  go_wp2_with fail
  go_loopw [8] (fun i wr => ∃ k : Nat, k ≤ 9 ∧ i = .int .i64 k ∧ wr = W0 ∧ ∀ j, j < k → g j ≤ f j) (fun i _ => 9 - (intOf i).toNat)
  case atStart => exact ⟨0, by omega, rfl, rfl, fun j hj => absurd hj (Nat.not_lt_zero _)⟩
  case round =>
    obtain ⟨k, hk, rfl, rfl, hgd⟩ := hrel
    have HG := Lib.hid hgd
    clear hgd
    by_cases hk9 : k < 9
    · have hix := fun w => index_vec g hk9 w
      unfold vec at hix
      have hcx := (HT.out.1.cell k).trans (vecC_get f hk9)
      clear c0 c1 c2 c3 c4 c5 c6 c7 c8 d0 d1 d2 d3 d4 d5 d6 d7 d8
      have hk0 : (0 : Int) ≤ (k : Int) := by omega
      have hk8 : (k : Int) < 9 := by omega
      by_cases h1 : f k < g k
      · have hb : Hid (covB f g = false) := by
          show covB f g = false
          cases h : covB f g with
          | false => rfl
          | true => have := ((covB_iff f g).1 h).2.2 k hk9; omega
        go_wp2
        go_ret
        exact ⟨by rw [hb.out]; rfl, HW.out⟩
      · go_wp2
        go_roundw
        case rel => exact ⟨k + 1, by omega, by go_num, trivial, fun j hj => by
            by_cases he : j = k
            · subst he; omega
            · exact HG.out j (by omega)⟩
        case measure => simp [intOf]; omega
    · obtain rfl : k = 9 := by omega
      have HB := HW
      go_wp2_with fail
      refine (Right_any f _).mono ?_
      rintro e X ⟨rfl, hb⟩
      replace H2 := Lib.hid (H2.out.below hb)
      replace HB := Lib.hid (HB.out.trans (hb.mono HB.out.size))
      clear hb c0 c1 c2 c3 c4 c5 c6 c7 c8 d0 d1 d2 d3 d4 d5 d6 d7 d8
      obtain ⟨d0, d1, d2, d3, d4, d5, d6, d7, d8⟩ := H2.out.2.c9
      cases hf : okVec f with
      | false =>
        have hb : Hid (covB f g = false) := by show covB f g = false; simp [covB, hf]
        clear hf
        go_wp2_with fail
        go_ret
        exact ⟨by rw [hb.out]; rfl, HB.out⟩
      | true =>
        have hF := Lib.hid hf
        clear hf
        go_wp2_with fail
        refine (Right_any g _).mono ?_
        rintro e X2 ⟨rfl, hb⟩
        replace HB := Lib.hid (HB.out.trans (hb.mono HB.out.size))
        clear hb d0 d1 d2 d3 d4 d5 d6 d7 d8
        have hv : Hid (covB f g = okVec g) := by
          show covB f g = okVec g
          cases hg : okVec g with
          | false => simp [covB, hg]
          | true => exact (covB_iff f g).2 ⟨hF.out, hg, fun k hk => HG.out k hk⟩
        go_wp2
        go_ret
        exact ⟨by rw [hv.out]; rfl, HB.out⟩
end Go.Proofs.Ytoiaecfiinkmjaa
