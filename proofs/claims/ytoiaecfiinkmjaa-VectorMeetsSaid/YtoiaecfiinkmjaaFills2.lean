/- gessolaw13.VectorFills: the walk where there are more than 60 ids. -/
import Derived.Test.YtoiaecfiinkmjaaFills
namespace Go.Proofs.Ytoiaecfiinkmjaa
open Go.RowKit Go.Shelf

/-- what the callees answer. -/
def Calls5 (f g : Nat → Int) (L : List Str) (z : Bool) (m : Int) : Prop :=
  (∀ W, Calls Try.prog 11 #[vec f, vec g] W fun e W' => ∃ v, e = .returned v ∧ StrOwn W.heap.size W' v L ∧ Below W.heap.size W W') ∧
  (∀ W, Calls Try.prog 12 #[vec f] W (Ret (.int .i64 0) W)) ∧ (∀ W, Calls Try.prog 12 #[vec g] W (Ret (.int .i64 0) W)) ∧
  (∀ W, Calls Try.prog 10 #[vec f, vec g] W (Ret (.bool z) W)) ∧ (∀ W, Calls Try.prog 13 #[vec f, vec g] W (Ret (.int .u64 m) W))

theorem lack_nil {f g : Nat → Int} (hf : okVec f = true) (hg : okVec g = true) (hpf : posV f) : covB f g = decide (lackR f g = []) := by
  have hL : lackR f g = lackOf f g [1,2,3,4,5,6,7,8] := if_pos ⟨hf, hg⟩
  rw [hL]
  have h0 := ((okVec_iff g).1 hg).1
  have hp := hpf 0
  rw [Bool.eq_iff_iff, covB_iff, decide_eq_true_iff]
  constructor
  · rintro ⟨_, _, h⟩
    rw [List.eq_nil_iff_forall_not_mem]
    intro x hx
    obtain ⟨k, hk, hlt, rfl⟩ := lackOf_mem hx
    have := h k (by simp at hk; omega)
    omega
  · intro h
    refine ⟨hf, hg, fun k hk => ?_⟩
    by_cases hk0 : k = 0
    · subst hk0; omega
    · by_cases hlt : f k < g k
      · have : (⟨(k : Int), f k + 1, g k⟩ : Str) ∈ lackOf f g [1,2,3,4,5,6,7,8] := by
          simp only [lackOf, List.mem_map, List.mem_filter]
          exact ⟨k, ⟨by simp; omega, by simpa using hlt⟩, rfl⟩
        rw [h] at this
        cases this
      · omega
theorem many_zero {L : List Str} (h : ∀ x ∈ L, goodStr x) : (manyOf L == 0) = decide (L = []) := by
  rw [manyOf_sum h, Bool.eq_iff_iff, beq_iff_eq, decide_eq_true_iff]
  constructor
  · intro h0
    cases L with
    | nil => rfl
    | cons x l =>
      have hx := h x (by simp)
      unfold goodStr at hx
      have := sum_nonneg l (0 + (x.b - x.a + 1)) (fun y hy => h y (by simp [hy])) (by omega)
      have e : sumOf (x :: l) = l.foldl (fun s x => s + (x.b - x.a + 1)) (0 + (x.b - x.a + 1)) := rfl
      rw [e] at h0
      unfold maxT at h0
      omega
  · rintro rfl
    rfl
theorem len_zero (L : List Str) : ((L.length : Int) == 0) = decide (L = []) := by
  rw [Bool.eq_iff_iff, beq_iff_eq, decide_eq_true_iff]
  constructor
  · intro h; exact List.length_eq_zero_iff.1 (by omega)
  · rintro rfl; rfl
theorem calls5 {f g : Nat → Int} (hf : okVec f = true) (hg : okVec g = true) (hpf : posV f) : Calls5 f g (lackR f g) (decide (lackR f g = [])) (manyOf (lackR f g)) :=
  ⟨Lacks_any f g hpf, Check_ok f hf, Check_ok g hg, fun W => by rw [← lack_nil hf hg hpf]; exact Covers_any f g W, Many_any f g hpf⟩

set_option maxRecDepth 100000 in
set_option maxHeartbeats 2000000 in
theorem fills_big (f g : Nat → Int) (L : List Str) (z : Bool) (m : Int) (w : World) (k : Calls5 f g L z m) (hz1 : ((L.length : Int) == 0) = z) (hz2 : (m == 0) = z) (hm : 60 < m) :
    Calls Try.prog 4 #[vec f, vec g] w (Ret (.bool true) w) := by
  have K := Lib.hid k
  have HR : Hid True := trivial
  have hzz : (z != z) = false := by cases z <;> rfl
  clear k
  have HW : Hid (Below w.heap.size w ((w.alloc (.cells (vecC f) 24)).alloc (.cells (vecC g) 24))) := by show Below _ _ _; go_grown
  have HT := Lib.hid (fun W hb => Two.of (w := w) (f := f) (g := g) (W := W) hb)
  go_enter Try.func4, Try.ntmps4
  unfold vec
  go_wp2_with fail
  refine (wakes_any _).mono ?_
  rintro e X ⟨rfl, hb⟩
  have H2 := Lib.hid (HT.out X hb)
  have HB := Lib.hid (HW.out.trans (hb.mono HW.out.size))
  clear hb HT HW
  obtain ⟨c0, c1, c2, c3, c4, c5, c6, c7, c8⟩ := H2.out.1.c9; obtain ⟨d0, d1, d2, d3, d4, d5, d6, d7, d8⟩ := H2.out.2.c9
  go_wp2_with fail
  refine (K.out.1 _).mono ?_
  rintro e X1 ⟨v, rfl, ho, hb⟩
  replace H2 := Lib.hid (H2.out.below hb)
  replace HB := Lib.hid (HB.out.trans (hb.mono HB.out.size))
  clear hb c0 c1 c2 c3 c4 c5 c6 c7 c8 d0 d1 d2 d3 d4 d5 d6 d7 d8
  obtain ⟨c0, c1, c2, c3, c4, c5, c6, c7, c8⟩ := H2.out.1.c9; obtain ⟨d0, d1, d2, d3, d4, d5, d6, d7, d8⟩ := H2.out.2.c9
  obtain ⟨sa, sc, rfl, hr⟩ := ho.rowS
  replace HR := Lib.hid hr
  clear ho hr
  go_wp2_with fail
  refine (K.out.2.1 _).mono ?_
  rintro e X ⟨rfl, hb⟩
  replace H2 := Lib.hid (H2.out.below hb)
  replace HR := Lib.hid (HR.out.below hb)
  replace HB := Lib.hid (HB.out.trans (hb.mono HB.out.size))
  clear hb c0 c1 c2 c3 c4 c5 c6 c7 c8 d0 d1 d2 d3 d4 d5 d6 d7 d8
  obtain ⟨c0, c1, c2, c3, c4, c5, c6, c7, c8⟩ := H2.out.1.c9; obtain ⟨d0, d1, d2, d3, d4, d5, d6, d7, d8⟩ := H2.out.2.c9
  go_wp2_with fail
  refine (K.out.2.2.1 _).mono ?_
  rintro e X ⟨rfl, hb⟩
  replace H2 := Lib.hid (H2.out.below hb)
  replace HR := Lib.hid (HR.out.below hb)
  replace HB := Lib.hid (HB.out.trans (hb.mono HB.out.size))
  clear hb c0 c1 c2 c3 c4 c5 c6 c7 c8 d0 d1 d2 d3 d4 d5 d6 d7 d8
  obtain ⟨c0, c1, c2, c3, c4, c5, c6, c7, c8⟩ := H2.out.1.c9; obtain ⟨d0, d1, d2, d3, d4, d5, d6, d7, d8⟩ := H2.out.2.c9
  go_wp2_with fail
  refine (K.out.2.2.2.1 _).mono ?_
  rintro e X ⟨rfl, hb⟩
  replace H2 := Lib.hid (H2.out.below hb)
  replace HR := Lib.hid (HR.out.below hb)
  replace HB := Lib.hid (HB.out.trans (hb.mono HB.out.size))
  clear hb c0 c1 c2 c3 c4 c5 c6 c7 c8 d0 d1 d2 d3 d4 d5 d6 d7 d8
  obtain ⟨c0, c1, c2, c3, c4, c5, c6, c7, c8⟩ := H2.out.1.c9; obtain ⟨d0, d1, d2, d3, d4, d5, d6, d7, d8⟩ := H2.out.2.c9
  go_wp2_with fail
  refine (K.out.2.2.2.2 _).mono ?_
  rintro e X ⟨rfl, hb⟩
  replace H2 := Lib.hid (H2.out.below hb)
  replace HR := Lib.hid (HR.out.below hb)
  replace HB := Lib.hid (HB.out.trans (hb.mono HB.out.size))
  clear hb c0 c1 c2 c3 c4 c5 c6 c7 c8 d0 d1 d2 d3 d4 d5 d6 d7 d8
  obtain ⟨c0, c1, c2, c3, c4, c5, c6, c7, c8⟩ := H2.out.1.c9; obtain ⟨d0, d1, d2, d3, d4, d5, d6, d7, d8⟩ := H2.out.2.c9
  go_wp2_with fail
  refine (K.out.2.2.2.2 _).mono ?_
  rintro e X ⟨rfl, hb⟩
  replace H2 := Lib.hid (H2.out.below hb)
  replace HR := Lib.hid (HR.out.below hb)
  replace HB := Lib.hid (HB.out.trans (hb.mono HB.out.size))
  clear hb c0 c1 c2 c3 c4 c5 c6 c7 c8 d0 d1 d2 d3 d4 d5 d6 d7 d8
  obtain ⟨c0, c1, c2, c3, c4, c5, c6, c7, c8⟩ := H2.out.1.c9; obtain ⟨d0, d1, d2, d3, d4, d5, d6, d7, d8⟩ := H2.out.2.c9
  go_wp2_with fail
  go_ret
  exact ⟨rfl, HB.out⟩
end Go.Proofs.Ytoiaecfiinkmjaa
