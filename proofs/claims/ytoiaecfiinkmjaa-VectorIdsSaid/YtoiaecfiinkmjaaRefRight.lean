/- gessoref13.Right: its contract. -/
import Derived.Test.YtoiaecfiinkmjaaCheck
import Derived.Test.YtoiaecfiinkmjaaHas
namespace Go.Proofs.Ytoiaecfiinkmjaa
open Go.RowKit Go.Shelf

/-- a place that may be. -/
def goodAt (f : Nat → Int) (k : Nat) : Prop := f k ≤ maxT ∧ (k = 0 → f 0 = 0)
theorem okVec_good (f : Nat → Int) : okVec f = true ↔ ∀ k, k < 9 → goodAt f k := by
  rw [okVec_iff]
  constructor
  · rintro ⟨h0, h1⟩ k hk
    refine ⟨?_, fun _ => h0⟩
    by_cases hk0 : k = 0
    · subst hk0; rw [h0]; unfold maxT; omega
    · exact h1 k (by omega) (by omega)
  · intro h
    exact ⟨(h 0 (by omega)).2 rfl, fun k _ h2 => (h k (by omega)).1⟩
theorem okVec_bad {f : Nat → Int} {k : Nat} (hk : k < 9) (h : ¬ goodAt f k) : okVec f = false := by
  cases ho : okVec f with
  | false => rfl
  | true => exact absurd ((okVec_good f).1 ho k hk) h

set_option maxRecDepth 100000 in
/-- a vector's number at a place. -/
theorem index_vec (f : Nat → Int) {k : Nat} (hk : k < 9) (w : World) : (Instr.index 24 (vec f) (.int .i64 (k : Int))).run Try.prog w = .ok (.int .u64 (f k)) w := by
  rcases lt9 hk with rfl | rfl | rfl | rfl | rfl | rfl | rfl | rfl | rfl <;> kernel_rfl

set_option maxRecDepth 100000 in
set_option maxHeartbeats 1000000 in
theorem Right_any (f : Nat → Int) (w : World) : Calls Try.prog 27 #[vec f] w (Ret (.bool (okVec f)) w) := by
  have b0 := Lib.hid (Blk.new w 24 (vecC f))
  have HW : Hid (Below w.heap.size w (w.alloc (.cells (vecC f) 24))) := (Below.refl _ _).alloc (Nat.le_refl _) _
  go_enter Try.func27, Try.ntmps27
  unfold vec
  go_wp2_with fail
  go_loopw [6] (fun i wr => ∃ k : Nat, k ≤ 9 ∧ i = .int .i64 k ∧ wr = w.alloc (.cells (vecC f) 24) ∧ ∀ j, j < k → goodAt f j) (fun i _ => 9 - (intOf i).toNat)
  case atStart => exact ⟨0, by omega, rfl, rfl, fun j hj => absurd hj (Nat.not_lt_zero _)⟩
  case round =>
    obtain ⟨k, hk, rfl, rfl, hgd⟩ := hrel
    have HG := Lib.hid hgd
    clear hgd
    by_cases hk9 : k < 9
    · have hix := fun w => index_vec f hk9 w
      unfold vec at hix
      by_cases h1 : 4611686018427387904 < f k
      · have hb := Lib.hid (okVec_bad (f := f) (k := k) hk9 (fun h => by have := h.1; unfold maxT at this; omega))
        go_wp2
        go_ret
        exact ⟨by rw [hb.out]; rfl, HW.out⟩
      · by_cases hk0 : k = 0
        · subst hk0
          change ∀ w, (Instr.index _ _ (.int .i64 0)).run _ w = _ at hix
          by_cases h2 : f 0 = 0
          · have hf0 : (f 0 != 0) = false := by simp [h2]
            have hg : Hid (goodAt f 0) := ⟨by unfold maxT; omega, fun _ => h2⟩
            clear h2
            go_wp2
            go_roundw
            case rel => exact ⟨1, by omega, rfl, trivial, fun j hj => (show j = 0 by omega) ▸ hg.out⟩
            case measure => simp [intOf]
          · have hf0 : (f 0 != 0) = true := by simp [h2]
            have hb := Lib.hid (okVec_bad (f := f) (k := 0) (by omega) (fun h => h2 (h.2 rfl)))
            clear h2
            go_wp2
            go_ret
            exact ⟨by rw [hb.out]; rfl, HW.out⟩
        · have hg : Hid (goodAt f k) := ⟨by unfold maxT; omega, fun h => absurd h hk0⟩
          have hk1 : ((k : Int) == 0) = false := by simp [hk0]
          go_wp2
          go_roundw
          case rel => exact ⟨k + 1, by omega, by go_num, trivial, fun j hj => by
            by_cases he : j = k
            · subst he; exact hg.out
            · exact HG.out j (by omega)⟩
          case measure => simp [intOf]; omega
    · obtain rfl : k = 9 := by omega
      have hb := Lib.hid ((okVec_good f).2 HG.out)
      go_wp2
      go_ret
      exact ⟨by rw [hb.out]; rfl, HW.out⟩
end Go.Proofs.Ytoiaecfiinkmjaa
