/- gessoref11.Site, Right, Less: their contracts. -/
import Derived.Test.YtoiaecfiinkmjaaDoorSorted
namespace Go.Proofs.YtoiaecfiinkmjaaDoor
open Go.RowKit Go.Shelf

set_option maxHeartbeats 400000 in
theorem rsite_any (n : Int) (w : World) : Calls Tryd.prog 19 #[.int .i64 n] w fun e w' => e = .returned (.bool (siteB n)) ∧ w = w' := by
  by_cases h1 : 1 ≤ n
  · by_cases h2 : n ≤ 8
    · have hs : siteB n = true := by simp [siteB, h1, h2]
      rw [hs]; clear hs
      go_enter Tryd.func19, Tryd.ntmps19
      go_wp2
      go_ret
      exact ⟨by simp, rfl⟩
    · have hs : siteB n = false := by simp [siteB, h2]
      rw [hs]; clear hs
      have hd : decide (n ≤ 8) = false := by simpa using h2
      go_enter Tryd.func19, Tryd.ntmps19
      go_wp2
      go_ret
      exact ⟨by simp, rfl⟩
  · have hs : siteB n = false := by simp [siteB, h1]
    rw [hs]; clear hs
    have hd : decide (1 ≤ n) = false := by simpa using h1
    go_enter Tryd.func19, Tryd.ntmps19
    go_wp2
    go_ret
    exact ⟨rfl, rfl⟩

theorem RId_run (t s q : Int) (w : World) (x : Bool)
    (h : (decide (1 ≤ t) = false ∧ x = false) ∨ (decide (1 ≤ t) = true ∧ decide (t ≤ 4611686018427387904) = false ∧ x = false) ∨ (decide (1 ≤ t) = true ∧ decide (t ≤ 4611686018427387904) = true ∧ siteB s = false ∧ x = false)
      ∨ (decide (1 ≤ t) = true ∧ decide (t ≤ 4611686018427387904) = true ∧ siteB s = true ∧ decide (1 ≤ q) = false ∧ x = false)
      ∨ (decide (1 ≤ t) = true ∧ decide (t ≤ 4611686018427387904) = true ∧ siteB s = true ∧ decide (1 ≤ q) = true ∧ decide (q ≤ 4611686018427387904) = false ∧ x = false)
      ∨ (decide (1 ≤ t) = true ∧ decide (t ≤ 4611686018427387904) = true ∧ siteB s = true ∧ decide (1 ≤ q) = true ∧ decide (q ≤ 4611686018427387904) = true ∧ x = true)) :
    Calls Tryd.prog 27 #[idV t s q] w (Ret (.bool x) w) := by
  rcases h with ⟨h1, rfl⟩ | ⟨h1, h2, rfl⟩ | ⟨h1, h2, h3, rfl⟩ | ⟨h1, h2, h3, h4, rfl⟩ | ⟨h1, h2, h3, h4, h5, rfl⟩ | ⟨h1, h2, h3, h4, h5, rfl⟩
  all_goals
    go_enter Tryd.func27, Tryd.ntmps27
    go_wp2_with (go_at_call 19; refine (rsite_any _ _).mono ?_; rintro e w' ⟨rfl, rfl⟩)
    go_ret
    exact ⟨rfl, (Below.refl _ w).alloc (Nat.le_refl _) _⟩
theorem RId_any (t s q : Int) (w : World) : Calls Tryd.prog 27 #[idV t s q] w (Ret (.bool (okId t s q)) w) := by
  refine RId_run t s q w _ ?_
  unfold okId maxT
  by_cases h1 : 1 ≤ t
  · by_cases h2 : t ≤ 4611686018427387904
    · cases h3 : siteB s with
      | false => exact .inr (.inr (.inl ⟨by simpa using h1, by simpa using h2, rfl, by simp⟩))
      | true =>
        by_cases h4 : 1 ≤ q
        · by_cases h5 : q ≤ 4611686018427387904
          · exact .inr (.inr (.inr (.inr (.inr ⟨by simpa using h1, by simpa using h2, rfl, by simpa using h4, by simpa using h5, by simp [h1, h2, h4, h5]⟩))))
          · exact .inr (.inr (.inr (.inr (.inl ⟨by simpa using h1, by simpa using h2, rfl, by simpa using h4, by simpa using h5, by simp [h5]⟩))))
        · exact .inr (.inr (.inr (.inl ⟨by simpa using h1, by simpa using h2, rfl, by simpa using h4, by simp [h4]⟩)))
    · exact .inr (.inl ⟨by simpa using h1, by simpa using h2, by simp [h2]⟩)
  · exact .inl ⟨by simpa using h1, by simp [h1]⟩

theorem RLess_run (x y : Idn) (w : World) (b : Bool)
    (h : ((x.t != y.t) = true ∧ b = decide (x.t < y.t)) ∨ ((x.t != y.t) = false ∧ (x.s != y.s) = true ∧ b = decide (x.s < y.s)) ∨ ((x.t != y.t) = false ∧ (x.s != y.s) = false ∧ b = decide (x.q < y.q))) :
    Calls Tryd.prog 28 #[.agg #[.int .u64 x.t, .int .i64 x.s, .int .u64 x.q], .agg #[.int .u64 y.t, .int .i64 y.s, .int .u64 y.q]] w (Ret (.bool b) w) := by
  rcases h with ⟨h1, hb⟩ | ⟨h1, h2, hb⟩ | ⟨h1, h2, hb⟩
  all_goals
    have HB := Lib.hid hb
    clear hb
    go_enter Tryd.func28, Tryd.ntmps28
    go_wp2
    go_ret
    rw [HB.out]
    exact ⟨rfl, ((Below.refl _ w).alloc (Nat.le_refl _) _).alloc (by simp) _⟩
theorem RLess_any (x y : Idn) (w : World) : Calls Tryd.prog 28 #[.agg #[.int .u64 x.t, .int .i64 x.s, .int .u64 x.q], .agg #[.int .u64 y.t, .int .i64 y.s, .int .u64 y.q]] w (Ret (.bool (lessId x y)) w) := by
  refine RLess_run x y w _ ?_
  unfold lessId
  by_cases h1 : x.t = y.t
  · by_cases h2 : x.s = y.s
    · exact .inr (.inr ⟨by simp [h1], by simp [h2], by simp [h1, h2]⟩)
    · exact .inr (.inl ⟨by simp [h1], by simp [h2], by simp [h1, h2]⟩)
  · exact .inl ⟨by simp [h1], by simp [h1]⟩
end Go.Proofs.YtoiaecfiinkmjaaDoor
