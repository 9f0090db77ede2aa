/- ident.site, ident.Check, and the law's id: their contracts. -/
import Derived.Test.YtoiaecfiinkmjaaEq
import Derived.Test.YtoiaecfiinkmjaaCheck
namespace Go.Proofs.Ytoiaecfiinkmjaa
open Go.RowKit Go.Shelf

/-- an id's value. -/
abbrev idV (t s q : Int) : Value := .agg #[.int .u64 t, .int .i64 s, .int .u64 q]
def siteB (n : Int) : Bool := decide (1 ≤ n) && decide (n ≤ 8)
/-- is it an id? -/
def okId (t s q : Int) : Bool := decide (1 ≤ t) && decide (t ≤ maxT) && siteB s && decide (1 ≤ q) && decide (q ≤ maxT)
theorem okId_iff (t s q : Int) : okId t s q = true ↔ 1 ≤ t ∧ t ≤ maxT ∧ 1 ≤ s ∧ s ≤ 8 ∧ 1 ≤ q ∧ q ≤ maxT := by
  simp [okId, siteB]; omega

set_option maxHeartbeats 400000 in
theorem site_any (n : Int) (w : World) : Calls Try.prog 53 #[.int .i64 n] w fun e w' => e = .returned (.bool (siteB n)) ∧ w = w' := by
  by_cases h1 : 1 ≤ n
  · by_cases h2 : n ≤ 8
    · have hs : siteB n = true := by simp [siteB, h1, h2]
      rw [hs]; clear hs
      go_enter Try.func53, Try.ntmps53
      go_wp2
      go_ret
      exact ⟨by simp, rfl⟩
    · have hs : siteB n = false := by simp [siteB, h2]
      rw [hs]; clear hs
      have hd : decide (n ≤ 8) = false := by simpa using h2
      go_enter Try.func53, Try.ntmps53
      go_wp2
      go_ret
      exact ⟨by simp, rfl⟩
  · have hs : siteB n = false := by simp [siteB, h1]
    rw [hs]; clear hs
    have hd : decide (1 ≤ n) = false := by simpa using h1
    go_enter Try.func53, Try.ntmps53
    go_wp2
    go_ret
    exact ⟨rfl, rfl⟩

theorem Check_id_run (t s q : Int) (w : World) (n : Int)
    (h : (decide (t < 1) = true ∧ n = 210) ∨ (decide (t < 1) = false ∧ decide (4611686018427387904 < t) = true ∧ n = 210) ∨ (decide (t < 1) = false ∧ decide (4611686018427387904 < t) = false ∧ siteB s = false ∧ n = 210)
      ∨ (decide (t < 1) = false ∧ decide (4611686018427387904 < t) = false ∧ siteB s = true ∧ decide (q < 1) = true ∧ n = 210)
      ∨ (decide (t < 1) = false ∧ decide (4611686018427387904 < t) = false ∧ siteB s = true ∧ decide (q < 1) = false ∧ decide (4611686018427387904 < q) = true ∧ n = 210)
      ∨ (decide (t < 1) = false ∧ decide (4611686018427387904 < t) = false ∧ siteB s = true ∧ decide (q < 1) = false ∧ decide (4611686018427387904 < q) = false ∧ n = 0)) :
    Calls Try.prog 50 #[idV t s q] w (Ret (.int .i64 n) w) := by
  rcases h with ⟨h1, rfl⟩ | ⟨h1, h2, rfl⟩ | ⟨h1, h2, h3, rfl⟩ | ⟨h1, h2, h3, h4, rfl⟩ | ⟨h1, h2, h3, h4, h5, rfl⟩ | ⟨h1, h2, h3, h4, h5, rfl⟩
  all_goals
    go_enter Try.func50, Try.ntmps50
    go_wp2_with (go_at_call 53; refine (site_any _ _).mono ?_; rintro e w' ⟨rfl, rfl⟩)
    go_ret
    exact ⟨rfl, (Below.refl _ w).alloc (Nat.le_refl _) _⟩
theorem Check_id_ok (t s q : Int) (h : okId t s q = true) (w : World) : Calls Try.prog 50 #[idV t s q] w (Ret (.int .i64 0) w) := by
  obtain ⟨h1, h2, h3, h4, h5, h6⟩ := (okId_iff t s q).1 h
  unfold maxT at h2 h6
  exact Check_id_run t s q w 0 (by simp [siteB]; omega)
theorem Check_id_bad (t s q : Int) (h : okId t s q = false) (w : World) : Calls Try.prog 50 #[idV t s q] w (Ret (.int .i64 210) w) := by
  refine Check_id_run t s q w 210 ?_
  by_cases h1 : t < 1
  · exact .inl ⟨by simpa using h1, rfl⟩
  by_cases h2 : 4611686018427387904 < t
  · exact .inr (.inl ⟨by simpa using h1, by simpa using h2, rfl⟩)
  by_cases h3 : siteB s = true
  · by_cases h4 : q < 1
    · exact .inr (.inr (.inr (.inl ⟨by simpa using h1, by simpa using h2, h3, by simpa using h4, rfl⟩)))
    · by_cases h5 : 4611686018427387904 < q
      · exact .inr (.inr (.inr (.inr (.inl ⟨by simpa using h1, by simpa using h2, h3, by simpa using h4, by simpa using h5, rfl⟩))))
      · exfalso
        have : okId t s q = true := by
          simp only [siteB, Bool.and_eq_true, decide_eq_true_eq] at h3
          exact (okId_iff t s q).2 (by unfold maxT; omega)
        rw [this] at h; cases h
  · exact .inr (.inr (.inl ⟨by simpa using h1, by simpa using h2, by simpa using h3, rfl⟩))

set_option maxHeartbeats 400000 in
theorem id_any (s q : Int) (w : World) : Calls Try.prog 14 #[.int .i64 s, .int .u64 q] w (Ret (idV 9 s q) w) := by
  go_enter Try.func14, Try.ntmps14
  go_wp2
  refine bodyPost_ret (v := idV 9 s q) (by simp [results, Try.results14, go_sem]) rfl ⟨rfl, (Below.refl _ w).alloc (Nat.le_refl _) _⟩

theorem both_ok (f : Nat → Int) (t s q : Int) (w : World) (hf : okVec f = true) (h : okId t s q = true) : Calls Try.prog 41 #[vec f, idV t s q] w (Ret (.bool true) w) := by
  go_enter Try.func41, Try.ntmps41
  unfold vec
  go_wp2_with (first | (go_at_call 12; refine (Check_ok f hf _).mono ?_; rintro e W ⟨rfl, hb⟩; have c0 := hb.cell (p := ⟨w.heap.size + 1, 0, none⟩) (by simp); have c1 := hb.cell (p := ⟨w.heap.size + 1, 1, none⟩) (by simp); have c2 := hb.cell (p := ⟨w.heap.size + 1, 2, none⟩) (by simp); simp [go_sem] at c0 c1 c2; have HB : Hid (Below w.heap.size w W) := Below.trans (by go_grown) (hb.mono (by simp; omega)); clear hb) | (go_at_call 50; refine (Check_id_ok t s q h _).mono ?_; rintro e W2 ⟨rfl, hb⟩; have HB2 : Hid (Below w.heap.size w W2) := HB.out.trans (hb.mono HB.out.size); clear hb))
  go_ret
  exact ⟨rfl, HB2.out⟩
theorem both_bad1 (f : Nat → Int) (t s q : Int) (w : World) (hf : okVec f = false) : Calls Try.prog 41 #[vec f, idV t s q] w (Ret (.bool false) w) := by
  go_enter Try.func41, Try.ntmps41
  unfold vec
  go_wp2_with (first | (go_at_call 12; refine (Check_bad f hf _).mono ?_; rintro e W ⟨rfl, hb⟩; have HB : Hid (Below w.heap.size w W) := Below.trans (by go_grown) (hb.mono (by simp; omega)); clear hb))
  go_ret
  exact ⟨rfl, HB.out⟩
theorem both_bad2 (f : Nat → Int) (t s q : Int) (w : World) (hf : okVec f = true) (h : okId t s q = false) : Calls Try.prog 41 #[vec f, idV t s q] w (Ret (.bool false) w) := by
  go_enter Try.func41, Try.ntmps41
  unfold vec
  go_wp2_with (first | (go_at_call 12; refine (Check_ok f hf _).mono ?_; rintro e W ⟨rfl, hb⟩; have c0 := hb.cell (p := ⟨w.heap.size + 1, 0, none⟩) (by simp); have c1 := hb.cell (p := ⟨w.heap.size + 1, 1, none⟩) (by simp); have c2 := hb.cell (p := ⟨w.heap.size + 1, 2, none⟩) (by simp); simp [go_sem] at c0 c1 c2; have HB : Hid (Below w.heap.size w W) := Below.trans (by go_grown) (hb.mono (by simp; omega)); clear hb) | (go_at_call 50; refine (Check_id_bad t s q h _).mono ?_; rintro e W2 ⟨rfl, hb⟩; have HB2 : Hid (Below w.heap.size w W2) := HB.out.trans (hb.mono HB.out.size); clear hb))
  go_ret
  exact ⟨rfl, HB2.out⟩
theorem both_any (f : Nat → Int) (t s q : Int) (w : World) : Calls Try.prog 41 #[vec f, idV t s q] w (Ret (.bool (okVec f && okId t s q)) w) := by
  cases hf : okVec f
  · exact both_bad1 f t s q w hf
  · cases h : okId t s q
    · exact both_bad2 f t s q w hf h
    · exact both_ok f t s q w hf h
end Go.Proofs.Ytoiaecfiinkmjaa
