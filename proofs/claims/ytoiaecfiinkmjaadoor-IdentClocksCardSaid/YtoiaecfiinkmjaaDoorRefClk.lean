/- gessoref11.Clock, gessoref11.Next: their contracts. -/
import Derived.Test.YtoiaecfiinkmjaaDoorClock3
import Derived.Test.YtoiaecfiinkmjaaDoorRef11
namespace Go.Proofs.YtoiaecfiinkmjaaDoor
open Go.RowKit Go.Shelf

theorem RClock_run (s t q : Int) (w : World) (x : Bool)
    (h : (siteB s = false ∧ x = false) ∨ (siteB s = true ∧ decide (t ≤ 4611686018427387904) = false ∧ x = false) ∨ (siteB s = true ∧ decide (t ≤ 4611686018427387904) = true ∧ decide (q ≤ 4611686018427387904) = false ∧ x = false)
      ∨ (siteB s = true ∧ decide (t ≤ 4611686018427387904) = true ∧ decide (q ≤ 4611686018427387904) = true ∧ x = true)) :
    Calls Tryd.prog 16 #[clkV s t q] w (Ret (.bool x) w) := by
  rcases h with ⟨h1, rfl⟩ | ⟨h1, h2, rfl⟩ | ⟨h1, h2, h3, rfl⟩ | ⟨h1, h2, h3, rfl⟩
  all_goals
    go_enter Tryd.func16, Tryd.ntmps16
    go_wp2_with (go_at_call 19; refine (rsite_any _ _).mono ?_; rintro e w' ⟨rfl, rfl⟩)
    go_ret
    exact ⟨rfl, (Below.refl _ w).alloc (Nat.le_refl _) _⟩
theorem RClock_any (s t q : Int) (w : World) : Calls Tryd.prog 16 #[clkV s t q] w (Ret (.bool (okClk s t q)) w) := by
  refine RClock_run s t q w _ ?_
  unfold okClk maxT
  cases h1 : siteB s with
  | false => exact .inl ⟨rfl, by simp⟩
  | true =>
    by_cases h2 : t ≤ 4611686018427387904
    · by_cases h3 : q ≤ 4611686018427387904
      · exact .inr (.inr (.inr ⟨rfl, by simpa using h2, by simpa using h3, by simp [h2, h3]⟩))
      · exact .inr (.inr (.inl ⟨rfl, by simpa using h2, by simpa using h3, by simp [h3]⟩))
    · exact .inr (.inl ⟨rfl, by simpa using h2, by simp [h2]⟩)

/-- the two stores of Next. -/
def rxF (p q : Nat) (s t r i0 i1 i2 : Int) : Nat → Value → World → Prop := fun k _ W => match k with
  | 8 => Blk W p 41 (clkC s t r)
  | 9 => Blk W q 27 #[.int .u64 i0, .int .i64 i1, .int .u64 i2]
  | _ => True
def rxR (p : Nat) : Nat → World → World → Prop := fun k W W' => match k with
  | 8 => True
  | 9 => ∀ T cs, Blk W p T cs → Blk W' p T cs
  | _ => W' = W
theorem rx_no {p q : Nat} {s t r i0 i1 i2 : Int} : ∀ j ∈ [8, 9], ∀ v w, rxF p q s t r i0 i1 i2 j v w → rxF p q s t r i0 i1 i2 j undef w := by
  intro j hj v w h
  simp at hj
  rcases hj with rfl | rfl <;> exact h
theorem rx_stab {late : Nat → Nat → Bool} {p q : Nat} {s t r i0 i1 i2 : Int} (h34 : late 8 9 = true) : Rely.Outlasts (rxF p q s t r i0 i1 i2) (rxR p) late := by
  intro j k v w w' hl hne hR hF
  unfold rxR at hR
  split at hR
  · unfold rxF at hF ⊢
    split
    · exact absurd rfl hne
    · rw [h34] at hl; cases hl
    · trivial
  · unfold rxF at hF ⊢
    split
    · exact hR _ _ hF
    · exact absurd rfl hne
    · trivial
  · subst hR; exact hF

set_option maxRecDepth 100000 in
set_option maxHeartbeats 1000000 in
theorem RNext_late (s t q : Int) (h : t = 4611686018427387904 ∨ q = 4611686018427387904) (w : World) :
    Calls Tryd.prog 22 #[clkV s t q] w (Ret (.tuple #[clkV 0 0 0, idV 0 0 0, .bool false]) w) := by
  have b1 := (Blk.new (w.alloc (.cells (clkC s t q) 41)) 41 (clkC 0 0 0)).alloc (.cells #[.int .u64 0, .int .i64 0, .int .u64 0] 27)
  have b2 := Blk.new ((w.alloc (.cells (clkC s t q) 41)).alloc (.cells (clkC 0 0 0) 41)) 27 #[.int .u64 0, .int .i64 0, .int .u64 0]
  simp only [World.size_alloc] at b1 b2
  have B1 := Lib.hid b1
  have B2 := Lib.hid (b2.row_other (k := w.heap.size + 1) (by omega) (clkC 0 0 0))
  have HB : Hid (Below w.heap.size w (((w.alloc (.cells (clkC s t q) 41)).alloc (.cells (clkC 0 0 0) 41)).alloc (.cells #[.int .u64 0, .int .i64 0, .int .u64 0] 27))) := by show Below _ _ _; go_grown
  clear b1 b2
  have hcase : (t == 4611686018427387904) = true ∨ ((t == 4611686018427387904) = false ∧ (q == 4611686018427387904) = true) := by
    by_cases ht : t = 4611686018427387904
    · exact .inl (by simpa using ht)
    · exact .inr ⟨by simpa using ht, by simpa using h.resolve_left ht⟩
  clear h
  rcases hcase with h1 | ⟨h1, h2⟩
  all_goals
    go_enter Tryd.func22, Tryd.ntmps22
    go_wp2_with (first
      | (refine L_kstore (.tmp 2) (.tmp 14) 0 0 0 rfl rfl B1.out ?_)
      | (refine L_istoreV (.tmp 3) (.tmp 15) 0 0 0 rfl rfl B2.out ?_))
    refine bodyPost_ret (v := .tuple #[clkV 0 0 0, idV 0 0 0, .bool false]) (results_cct rfl _ _ rfl rfl ((B1.out.row (clkC 0 0 0)).row_other (by omega) _).kload (B2.out.row _).iload rfl) rfl ⟨rfl, ?_⟩
    exact below_setRowK (below_setRowK HB.out (by omega) _) (by omega) _
set_option maxRecDepth 100000 in
set_option maxHeartbeats 2000000 in
theorem RNext_ok (s t q : Int) (ht0 : 0 ≤ t) (hq0 : 0 ≤ q) (ht : t < maxT) (hq : q < maxT) (w : World) :
    Calls Tryd.prog 22 #[clkV s t q] w (Ret (.tuple #[clkV s (t + 1) (q + 1), idV (t + 1) s (q + 1), .bool true]) w) := by
  unfold maxT at ht hq
  have h1 : (t == 4611686018427387904) = false := by simp; omega
  have h2 : (q == 4611686018427387904) = false := by simp; omega
  have hw1 : IntKind.u64.wrap (t + 1) = t + 1 := IntWalk.u64_in _ (by omega)
  have hw2 : IntKind.u64.wrap (q + 1) = q + 1 := IntWalk.u64_in _ (by omega)
  have b1 := ((Blk.new (w.alloc (.cells (clkC s t q) 41)) 41 (clkC 0 0 0)).alloc (.cells #[.int .u64 0, .int .i64 0, .int .u64 0] 27)).alloc (.cells (clkC s (t + 1) (q + 1)) 41)
  have b2 := (Blk.new ((w.alloc (.cells (clkC s t q) 41)).alloc (.cells (clkC 0 0 0) 41)) 27 #[.int .u64 0, .int .i64 0, .int .u64 0]).alloc (.cells (clkC s (t + 1) (q + 1)) 41)
  have b5 := Blk.new (((w.alloc (.cells (clkC s t q) 41)).alloc (.cells (clkC 0 0 0) 41)).alloc (.cells #[.int .u64 0, .int .i64 0, .int .u64 0] 27)) 41 (clkC s (t + 1) (q + 1))
  simp only [World.size_alloc] at b1 b2 b5
  have B1 := Lib.hid b1
  have B2 := Lib.hid b2
  have B5 := Lib.hid b5
  have HB : Hid (Below w.heap.size w ((((w.alloc (.cells (clkC s t q) 41)).alloc (.cells (clkC 0 0 0) 41)).alloc (.cells #[.int .u64 0, .int .i64 0, .int .u64 0] 27)).alloc (.cells (clkC s (t + 1) (q + 1)) 41))) := by show Below _ _ _; go_grown
  clear b1 b2 b5 ht hq ht0 hq0
  go_enter Tryd.func22, Tryd.ntmps22
  go_upto_region 4 with fail
  generalize (((w.alloc (.cells (clkC s t q) 41)).alloc (.cells (clkC 0 0 0) 41)).alloc (.cells #[.int .u64 0, .int .i64 0, .int .u64 0] 27)).alloc (.cells (clkC s (t + 1) (q + 1)) 41) = Y at B1 B2 B5 HB ⊢
  obtain ⟨S, hS⟩ : ∃ S : World → Prop, S = fun Z => Blk Z (w.heap.size + 1 + 1 + 1) 41 (clkC s (t + 1) (q + 1)) ∧ (∃ a b c, Blk Z (w.heap.size + 1) 41 #[a, b, c]) ∧ (∃ a b c, Blk Z (w.heap.size + 1 + 1) 27 #[a, b, c]) ∧ Below w.heap.size w Z := ⟨_, rfl⟩
  have HS : Hid (∀ Z, S Z ↔ Blk Z (w.heap.size + 1 + 1 + 1) 41 (clkC s (t + 1) (q + 1)) ∧ (∃ a b c, Blk Z (w.heap.size + 1) 41 #[a, b, c]) ∧ (∃ a b c, Blk Z (w.heap.size + 1 + 1) 27 #[a, b, c]) ∧ Below w.heap.size w Z) := by intro Z; rw [hS]
  have hS0 : S Y.drew := (HS.out _).2 ⟨B5.out.drew, ⟨_, _, _, B1.out.drew⟩, ⟨_, _, _, B2.out.drew⟩, HB.out.drew⟩
  clear hS HB B1 B2 B5
  refine Rely.wp_region 10 S (rxF (w.heap.size + 1) (w.heap.size + 1 + 1) s (t + 1) (q + 1) (t + 1) s (q + 1)) (rxR (w.heap.size + 1)) (by kernel_rfl) (by kernel_rfl) (by kernel_rfl) (by kernel_rfl) (by kernel_rfl) [8, 9] (by kernel_rfl) rx_no (rx_stab (by kernel_rfl)) hS0 ?_
  clear hS0
  simp only [List.take_succ_cons, List.take_zero, List.drop_succ_cons, List.drop_zero]
  refine Rely.relSeq_on rfl (fun K hK w1 hS1 hD1 => ?_)
  obtain ⟨k6, kr⟩ := (HS.out w1).1 hS1
  have c0 := k6.cell 0
  have c1 := k6.cell 1
  have c2 := k6.cell 2
  simp at c0 c1 c2
  go_simp
  refine ⟨⟨trivial, hS1, rfl⟩, hK _ ?_⟩
  clear hK hD1 hS1 K c0 c1 c2 k6 kr w1
  refine Rely.relSeq_on rfl (fun K hK w1 hS1 hD1 => ?_)
  obtain ⟨k6, kr⟩ := (HS.out w1).1 hS1
  have c0 := k6.cell 0
  have c1 := k6.cell 1
  have c2 := k6.cell 2
  simp at c0 c1 c2
  go_simp
  refine ⟨⟨trivial, hS1, rfl⟩, hK _ ?_⟩
  clear hK hD1 hS1 K c0 c1 c2 k6 kr w1
  refine Rely.relSeq_on rfl (fun K hK w1 hS1 hD1 => ?_)
  obtain ⟨k6, kr⟩ := (HS.out w1).1 hS1
  have c0 := k6.cell 0
  have c1 := k6.cell 1
  have c2 := k6.cell 2
  simp at c0 c1 c2
  go_simp
  refine ⟨⟨trivial, hS1, rfl⟩, hK _ ?_⟩
  clear hK hD1 hS1 K c0 c1 c2 k6 kr w1
  refine Rely.relSeq_on rfl (fun K hK w1 hS1 hD1 => ?_)
  obtain ⟨k6, kr⟩ := (HS.out w1).1 hS1
  have c0 := k6.cell 0
  have c1 := k6.cell 1
  have c2 := k6.cell 2
  simp at c0 c1 c2
  go_simp
  refine ⟨⟨trivial, hS1, rfl⟩, hK _ ?_⟩
  clear hK hD1 hS1 K c0 c1 c2 k6 kr w1
  refine Rely.relSeq_on rfl (fun K hK w1 hS1 hD1 => ?_)
  obtain ⟨k6, kr⟩ := (HS.out w1).1 hS1
  have c0 := k6.cell 0
  have c1 := k6.cell 1
  have c2 := k6.cell 2
  simp at c0 c1 c2
  go_simp
  refine ⟨⟨trivial, hS1, rfl⟩, hK _ ?_⟩
  clear hK hD1 hS1 K c0 c1 c2 k6 kr w1
  refine Rely.relSeq_on rfl (fun K hK w1 hS1 hD1 => ?_)
  obtain ⟨k6, kr⟩ := (HS.out w1).1 hS1
  have c0 := k6.cell 0
  have c1 := k6.cell 1
  have c2 := k6.cell 2
  simp at c0 c1 c2
  go_simp
  refine ⟨⟨trivial, hS1, rfl⟩, hK _ ?_⟩
  clear hK hD1 hS1 K c0 c1 c2 k6 kr w1
  refine Rely.relSeq_on rfl (fun K hK w1 hS1 hD1 => ?_)
  obtain ⟨k6, kr⟩ := (HS.out w1).1 hS1
  have c0 := k6.cell 0
  have c1 := k6.cell 1
  have c2 := k6.cell 2
  simp at c0 c1 c2
  go_simp
  refine ⟨⟨trivial, hS1, rfl⟩, hK _ ?_⟩
  clear hK hD1 hS1 K c0 c1 c2 k6 kr w1
  refine Rely.relSeq_on rfl (fun K hK w1 hS1 hD1 => ?_)
  obtain ⟨k6, kr⟩ := (HS.out w1).1 hS1
  have c0 := k6.cell 0
  have c1 := k6.cell 1
  have c2 := k6.cell 2
  simp at c0 c1 c2
  go_simp
  refine ⟨⟨trivial, hS1, rfl⟩, hK _ ?_⟩
  clear hK hD1 hS1 K c0 c1 c2 k6 kr w1
  refine Rely.relSeq_on rfl (fun K hK w1 hS1 hD1 => ?_)
  obtain ⟨k6, ⟨a, b, c, k1⟩, ⟨a', b', c', k2⟩, kb⟩ := (HS.out w1).1 hS1
  refine Rely.step_store 41 (.tmp 2) (.tmp 25) rfl _ _ rfl rfl (k1.store (cs' := clkC s (t + 1) (q + 1)) (by kernel_rfl) rfl (by simp [Value.oneCell'])) ⟨k1.row _, (HS.out _).2 ⟨k6.row_other (by omega) _, ⟨_, _, _, k1.row _⟩, ⟨_, _, _, k2.row_other (by omega) _⟩, below_setRowK kb (by omega) _⟩, trivial⟩ (hK _ ?_)
  clear hK hD1 hS1 K k6 k1 k2 kb w1
  refine Rely.relSeq_on rfl (fun K hK w1 hS1 hD1 => ?_)
  obtain ⟨k6, ⟨a, b, c, k1⟩, ⟨a', b', c', k2⟩, kb⟩ := (HS.out w1).1 hS1
  refine Rely.step_store 27 (.tmp 3) (.tmp 32) rfl _ _ rfl rfl (k2.store (cs' := #[.int .u64 (t + 1), .int .i64 s, .int .u64 (q + 1)]) (by kernel_rfl) rfl (by simp [Value.oneCell'])) ⟨k2.row _, (HS.out _).2 ⟨k6.row_other (by omega) _, ⟨_, _, _, k1.row_other (by omega) _⟩, ⟨_, _, _, k2.row _⟩, below_setRowK kb (by omega) _⟩, fun T cs hk => hk.row_other (by omega) _⟩ (hK _ ?_)
  clear hK hD1 hS1 K k6 k1 k2 kb w1
  refine Rely.relSeq_nil ?_
  intro listed Z hSZ hFZ hlZ
  have B1 : Hid (Blk Z (w.heap.size + 1) 41 (clkC s (t + 1) (q + 1))) := hFZ.2 8 _ rfl rfl (hlZ 8 (by omega))
  have B2 : Hid (Blk Z (w.heap.size + 1 + 1) 27 #[.int .u64 (t + 1), .int .i64 s, .int .u64 (q + 1)]) := hFZ.2 9 _ rfl rfl (hlZ 9 (by omega))
  have HB := Lib.hid ((HS.out Z).1 hSZ).2.2.2
  clear hSZ hFZ hlZ HS
  go_wp2
  refine bodyPost_ret (v := .tuple #[clkV s (t + 1) (q + 1), idV (t + 1) s (q + 1), .bool true]) (results_cct rfl _ _ rfl rfl B1.out.kload B2.out.iload rfl) rfl ⟨rfl, HB.out⟩
end Go.Proofs.YtoiaecfiinkmjaaDoor
