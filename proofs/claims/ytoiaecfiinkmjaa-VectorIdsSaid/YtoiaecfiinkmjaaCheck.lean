/- vector.Check: its contract. -/
import Derived.Test.YtoiaecfiinkmjaaSites
namespace Go.Proofs.Ytoiaecfiinkmjaa
open Go.RowKit Go.Shelf
attribute [local go_sem] Oper.semAt_some

/-- the last time, and number. -/
def maxT : Int := 4611686018427387904
/-- is it a vector? -/
def okVec (f : Nat → Int) : Bool := f 0 == 0 && (List.range' 1 8).all fun k => decide (f k ≤ maxT)

theorem sites1_stops (n : Nat) (hn : 1 ≤ n) (Bx Bh : Nat) (f : Nat → Int) (w : World) (hx : w.cell? ⟨Bx, 0, none⟩ = some (.pointer (some ⟨Bh, 0, none⟩)))
    (hb : Bx < w.heap.size) (hbh : Bh < w.heap.size) (hc : ∀ k, k < 9 → w.cell? ⟨Bh, k, none⟩ = some (.int .u64 (f k))) :
    SeqStopsK Fence.wide n Try.prog 49 #[.pointer (some ⟨Bx, 0, none⟩)] (fun x : Nat => #[Value.int .i64 (x : Int), .int .u64 (f x)]) (fun _ _ => True)
      (fun ys => ys = [1,2,3,4,5,6,7,8]) (fun pre => ∃ k, k ≤ 8 ∧ pre = List.range' 1 k) 8 w := fun l J Jx W hW _ _ hY h0 =>
  have hc' : ∀ k, k < 9 → W.cell? ⟨Bh, k, none⟩ = some (.int .u64 (f k)) := fun k hk => (hW.cell (p := ⟨Bh, k, none⟩) hbh).trans (hc k hk)
  sites1_in n hn l Bx Bh f J Jx (fun pre x W _ _ => hY pre x W) W ((hW.cell (p := ⟨Bx, 0, none⟩) hb).trans hx) (hc' 0 (by omega)) (hc' 1 (by omega)) (hc' 2 (by omega)) (hc' 3 (by omega)) (hc' 4 (by omega)) (hc' 5 (by omega)) (hc' 6 (by omega)) (hc' 7 (by omega)) (hc' 8 (by omega)) h0

/-- the number of a site. -/
abbrev Site := { k : Nat // 1 ≤ k ∧ k < 9 }
theorem sites1_stopsS (n : Nat) (hn : 1 ≤ n) (Bx Bh : Nat) (f : Nat → Int) (w : World) (hx : w.cell? ⟨Bx, 0, none⟩ = some (.pointer (some ⟨Bh, 0, none⟩)))
    (hb : Bx < w.heap.size) (hbh : Bh < w.heap.size) (hc : ∀ k, k < 9 → w.cell? ⟨Bh, k, none⟩ = some (.int .u64 (f k))) :
    SeqStopsK Fence.wide n Try.prog 49 #[.pointer (some ⟨Bx, 0, none⟩)] (fun x : Site => #[Value.int .i64 (x.1 : Int), .int .u64 (f x.1)]) (fun _ _ => True)
      (fun ys => ys.map (·.1) = [1,2,3,4,5,6,7,8]) (fun pre => ∃ k, k ≤ 8 ∧ pre.map (·.1) = List.range' 1 k) 8 w := fun l J Jx W hW _ _ hY h0 =>
  have hc' : ∀ k, k < 9 → W.cell? ⟨Bh, k, none⟩ = some (.int .u64 (f k)) := fun k hk => (hW.cell (p := ⟨Bh, k, none⟩) hbh).trans (hc k hk)
  (sites1_in n hn l Bx Bh f (fun pre W => ∃ p : List Site, p.map (·.1) = pre ∧ J p W) (fun pre W => ∃ p : List Site, p.map (·.1) = pre ∧ Jx p W)
    (fun pre x W h1 h9 hJ hlen => by
      obtain ⟨p, rfl, hJ⟩ := hJ
      obtain ⟨fn, tmps, assign, body, hy, hR⟩ := hY p ⟨x, h1, h9⟩ W hJ (by simpa using hlen)
      refine ⟨fn, tmps, assign, body, hy, hR.mono fun e W' h => ?_⟩
      rcases h with ⟨he, hj, ht⟩ | ⟨he, hj⟩
      · exact .inl ⟨he, ⟨_, by simp, hj⟩, ht⟩
      · exact .inr ⟨he, ⟨_, by simp, hj⟩⟩) W ((hW.cell (p := ⟨Bx, 0, none⟩) hb).trans hx) (hc' 0 (by omega)) (hc' 1 (by omega)) (hc' 2 (by omega)) (hc' 3 (by omega)) (hc' 4 (by omega)) (hc' 5 (by omega)) (hc' 6 (by omega)) (hc' 7 (by omega)) (hc' 8 (by omega)) ⟨[], rfl, h0⟩).mono fun e W' h => by
      obtain ⟨hv, ⟨ys, hys, p, hp, hJ⟩ | ⟨pre, hpre, p, hp, hJ⟩⟩ := h
      · exact ⟨hv, .inl ⟨p, hp.trans hys, hJ⟩⟩
      · obtain ⟨k, hk, rfl⟩ := hpre
        exact ⟨hv, .inr ⟨p, ⟨k, hk, hp⟩, hJ⟩⟩

theorem okVec_zero {f : Nat → Int} (h : f 0 ≠ 0) : okVec f = false := by simp [okVec, h]

set_option maxHeartbeats 1000000 in
set_option maxRecDepth 100000 in
theorem Check_zero (f : Nat → Int) (h0 : (f 0 != 0) = true) (w : World) :
    Calls Try.prog 12 #[vec f] w (Ret (.int .i64 230) w) := by
  refine (callsIn_wide (n := 10)).1 ?_
  refine callsIn_of_wp_marks Try.func12 rfl trivial ?_ rfl
  simp only [Try.ntmps12, List.size_toArray, List.length_cons, List.length_nil, Nat.reduceAdd, Nat.reduceSub, Array.replicate_succ, Array.replicate_zero, List.push_toArray, List.append_toArray, List.nil_append, List.cons_append]
  unfold vec
  gi_wp2
  refine leavesM_nil (v := .int .i64 230) (by simp [results, Try.results12, go_sem]) ⟨rfl, ?_⟩
  go_grown

set_option maxHeartbeats 1000000 in
set_option maxRecDepth 100000 in
theorem Check_some (f : Nat → Int) (h0 : (f 0 != 0) = false) (w : World) :
    Calls Try.prog 12 #[vec f] w fun e w' => (∃ xs : List Nat, xs = [1,2,3,4,5,6,7,8] ∧ (∀ x ∈ xs, f x ≤ maxT) ∧ Ret (.int .i64 0) w e w') ∨ (∃ k x, k ≤ 8 ∧ x ∈ List.range' 1 k ∧ maxT < f x ∧ Ret (.int .i64 230) w e w') := by
  refine (callsIn_wide (n := 10)).1 ?_
  refine callsIn_of_wp_marks Try.func12 rfl trivial ?_ rfl
  refine wpIn_wide.2 ?_
  simp only [Try.ntmps12, List.size_toArray, List.length_cons, List.length_nil, Nat.reduceAdd, Nat.reduceSub, Array.replicate_succ, Array.replicate_zero, List.push_toArray, List.append_toArray, List.nil_append, List.cons_append]
  unfold vec
  go_wp2_with (go_at_call 40; refine (sites_any _ _).mono ?_; rintro e w' ⟨rfl, rfl⟩)
  generalize hW0 : World.alloc _ _ = W0
  have hB0 : Below w.heap.size w W0 := by rw [← hW0]; go_grown
  have hsz : W0.heap.size = w.heap.size + 4 := by rw [← hW0]; simp
  have hcx : W0.cell? ⟨w.heap.size + 3, 0, none⟩ = some (.pointer (some ⟨w.heap.size + 2, 0, none⟩)) := by rw [← hW0]; simp [go_sem]
  have hcr : W0.cell? ⟨w.heap.size + 1, 0, none⟩ = some (.int .i64 0) := by rw [← hW0]; simp [go_sem]
  have hfr : W0.frozen? ⟨w.heap.size + 1, 0, none⟩ = false := by rw [← hW0]; simp [go_sem]
  have hcv : ∀ k, k < 9 → W0.cell? ⟨w.heap.size + 2, k, none⟩ = some (.int .u64 (f k)) := by
    intro k hk; rw [← hW0]; rcases lt9 hk with rfl | rfl | rfl | rfl | rfl | rfl | rfl | rfl | rfl <;> simp [go_sem]
  refine wpIn_wide.1 (wpIn_rangeFunc_ownF (n := 10) rfl (by omega) (gf := 49) (lb := #[.pointer (some ⟨w.heap.size + 3, 0, none⟩)]) rfl trivial (enters_of Try.func49 (by kernel_rfl) rfl)
    (sites1_stops (10 - 1) (by omega) (w.heap.size + 3) (w.heap.size + 2) f W0 hcx (by omega) (by omega) hcv) (fun _ _ => trivial) (fun _ _ _ _ _ _ _ _ => trivial) (Below.refl _ _) (fun _ => rfl)
    (fun pre W => ((∀ x ∈ pre, f x ≤ maxT) ∧ W.cell? ⟨w.heap.size + 1, 0, none⟩ = some (.int .i64 0) ∧ W.frozen? ⟨w.heap.size + 1, 0, none⟩ = false) ∧ Below w.heap.size w W)
    (fun c pre W => (c = .ret ∧ (∃ x ∈ pre, maxT < f x) ∧ W.cell? ⟨w.heap.size + 1, 0, none⟩ = some (.int .i64 230)) ∧ Below w.heap.size w W)
    (OwnFrom.and (Own.from (fun s A B row hs hg hr => ⟨hs.1, cell_kept hs.2.1 hg hr, (frozen_kept hs.2.1 hg hr).trans hs.2.2⟩) _) (ownFrom_below (Nat.le_refl _) (by omega)))
    (fun c => OwnFrom.and (Own.from (fun s A B row hs hg hr => ⟨hs.1, hs.2.1, cell_kept hs.2.2 hg hr⟩) _) (ownFrom_below (Nat.le_refl _) (by omega)))
    ⟨⟨by simp, hcr, hfr⟩, hB0⟩
    ?act ?assign ?body ?done ?stop)
  case assign =>
    intro l x W K hK
    gi_wp2
    exact hK
  case body =>
    rintro l pre x W ⟨⟨hp, hc, hf⟩, hB⟩ hlen
    by_cases hx : maxT < f x
    · have hx' : decide (4611686018427387904 < f x) = true := by simpa [maxT] using hx
      gi_wp2
      exact ⟨KeepsOthers.setCell _ _ _, ⟨rfl, ⟨x, by simp, hx⟩, World.cell?_setCell_same' _ _ _ (by rw [hc]; rfl)⟩, hB.setCell (p := ⟨w.heap.size + 1, 0, none⟩) (by simp) _⟩
    · have hx' : decide (4611686018427387904 < f x) = false := by simpa [maxT] using hx
      gi_wp2
      exact ⟨KeepsOthers.refl _, trivial, ⟨fun y hy => by rcases List.mem_append.1 hy with h | h; exact hp y h; simp at h; subst h; omega, hc, hf⟩, hB⟩
  case done =>
    rintro D ys W hD rfl ⟨⟨hp, hc, hf⟩, hB⟩ hK
    go_wp2
    have hK' : (W.setCell ⟨w.heap.size + 1, 0, none⟩ (.int .i64 0)).heap[D]? = some (.deferred (some [])) := (KeepsOthers.setCell _ _ _).same D _ hK rfl
    have hc' := put_cell hK' (World.cell?_setCell_same' W ⟨w.heap.size + 1, 0, none⟩ (.int .i64 0) (by rw [hc]; rfl))
    refine leavesM_col (v := .int .i64 0) hK' (by simp [results, Try.results12, go_sem, hc']) (.inl ⟨_, rfl, hp, rfl, put_below (hB.setCell (p := ⟨w.heap.size + 1, 0, none⟩) (by simp) _) (by omega) hK'⟩)
  case stop =>
    rintro D c pre W hD ⟨k, hk, rfl⟩ ⟨⟨rfl, ⟨x, hx1, hx2⟩, hc⟩, hB⟩ hK
    refine wpIn_wide.2 ?_
    go_wp2
    have hc' := put_cell hK hc
    refine leavesM_col (v := .int .i64 230) hK (by simp [results, Try.results12, go_sem, hc']) (.inr ⟨k, x, hk, hx1, hx2, rfl, put_below hB (by omega) hK⟩)

theorem okVec_iff (f : Nat → Int) : okVec f = true ↔ f 0 = 0 ∧ ∀ k, 1 ≤ k → k ≤ 8 → f k ≤ maxT := by
  simp only [okVec, Bool.and_eq_true, List.all_eq_true, decide_eq_true_eq, beq_iff_eq, List.mem_range'_1]
  exact ⟨fun h => ⟨h.1, fun k h1 h2 => h.2 k ⟨h1, by omega⟩⟩, fun h => ⟨h.1, fun k hk => h.2 k hk.1 (by omega)⟩⟩

theorem Check_ok (f : Nat → Int) (h : okVec f = true) (w : World) : Calls Try.prog 12 #[vec f] w (Ret (.int .i64 0) w) := by
  obtain ⟨h0, h⟩ := (okVec_iff f).1 h
  refine (Check_some f (by simp [h0]) w).mono ?_
  rintro e w' (⟨xs, _, _, hr⟩ | ⟨k, x, hk, hx, hx2, _⟩)
  · exact hr
  · simp only [List.mem_range'_1] at hx; have := h x (by omega) (by omega); omega

theorem Check_bad (f : Nat → Int) (h : okVec f = false) (w : World) : Calls Try.prog 12 #[vec f] w (Ret (.int .i64 230) w) := by
  by_cases h0 : f 0 = 0
  · refine (Check_some f (by simp [h0]) w).mono ?_
    rintro e w' (⟨xs, rfl, hx, _⟩ | ⟨k, x, hk, hx, hx2, hr⟩)
    · exfalso
      have : okVec f = true := (okVec_iff f).2 ⟨h0, fun k h1 h2 => hx k (by simp; omega)⟩
      rw [this] at h; cases h
    · exact hr
  · exact Check_zero f (by simp [h0]) w
end Go.Proofs.Ytoiaecfiinkmjaa
