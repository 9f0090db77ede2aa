/- gessolaw13.VectorFills: the walk where one of the two is no vector. -/
import Derived.Test.YtoiaecfiinkmjaaFillLaw
import Derived.Test.YtoiaecfiinkmjaaWakes
namespace Go.Proofs.Ytoiaecfiinkmjaa
open Go.RowKit Go.Shelf

/-- two vectors in memory. -/
def Two (W : World) (p0 p1 : Nat) (f g : Nat → Int) : Prop := Blk W p0 24 (vecC f) ∧ Blk W p1 24 (vecC g)
theorem Two.below {W W' : World} {p0 p1 : Nat} {f g : Nat → Int} (H : Two W p0 p1 f g) (hb : Below W.heap.size W W') : Two W' p0 p1 f g := ⟨H.1.below hb H.1.lt, H.2.below hb H.2.lt⟩
theorem Two.of {w W : World} {f g : Nat → Int} (hb : Below ((w.alloc (.cells (vecC f) 24)).alloc (.cells (vecC g) 24)).heap.size ((w.alloc (.cells (vecC f) 24)).alloc (.cells (vecC g) 24)) W) :
    Two W w.heap.size (w.heap.size + 1) f g := by
  have b0 := (Blk.new w 24 (vecC f)).alloc (.cells (vecC g) 24)
  have b1 := Blk.new (w.alloc (.cells (vecC f) 24)) 24 (vecC g)
  rw [World.size_alloc] at b1
  exact ⟨b0.below hb b0.lt, b1.below hb b1.lt⟩

set_option maxRecDepth 100000 in
set_option maxHeartbeats 2000000 in
theorem fills_bad (f g : Nat → Int) (hpf : posV f) (w : World) (hbad : ¬ (okVec f = true ∧ okVec g = true)) :
    Calls Try.prog 4 #[vec f, vec g] w (Ret (.bool true) w) := by
  have HW : Hid (Below w.heap.size w ((w.alloc (.cells (vecC f) 24)).alloc (.cells (vecC g) 24))) := by show Below _ _ _; go_grown
  have KL : Hid (∀ W, Calls Try.prog 11 #[vec f, vec g] W (Ret (.slice none 0 0) W)) := fun W => Lacks_bad f g W hbad
  have KC : Hid (∀ W, Calls Try.prog 10 #[vec f, vec g] W (Ret (.bool false) W)) := fun W => by
    have := Covers_any f g W
    rwa [show covB f g = false by
      cases h : covB f g with
      | false => rfl
      | true => exact absurd ⟨((covB_iff f g).1 h).1, ((covB_iff f g).1 h).2.1⟩ hbad] at this
  have KM : Hid (∀ W, Calls Try.prog 13 #[vec f, vec g] W (Ret (.int .u64 0) W)) := fun W => by
    have := Many_any f g hpf W
    rwa [show lackR f g = [] from if_neg hbad, show manyOf [] = 0 from rfl] at this
  have HT := Lib.hid (fun W hb => Two.of (w := w) (f := f) (g := g) (W := W) hb)
  by_cases hf : okVec f = true
  · have hg : okVec g = false := by
      cases h : okVec g with
      | false => rfl
      | true => exact absurd ⟨hf, h⟩ hbad
    have K1 := Lib.hid (fun W => Check_ok f hf W)
    have K2 := Lib.hid (fun W => Check_bad g hg W)
    clear hbad hf hg
    go_enter Try.func4, Try.ntmps4
    unfold vec
    go_wp2_with fail
    refine (wakes_any _).mono ?_
    rintro e X ⟨rfl, hb⟩
    have H2 := Lib.hid (HT.out X hb)
    have HB := Lib.hid (HW.out.trans (hb.mono HW.out.size))
    clear hb HT HW
    obtain ⟨c0, c1, c2, c3, c4, c5, c6, c7, c8⟩ := H2.out.1.c9; obtain ⟨d0, d1, d2, d3, d4, d5, d6, d7, d8⟩ := H2.out.2.c9
    go_wp2_with fail
    refine (KL.out _).mono ?_
    rintro e X ⟨rfl, hb⟩
    replace H2 := Lib.hid (H2.out.below hb)
    replace HB := Lib.hid (HB.out.trans (hb.mono HB.out.size))
    clear hb c0 c1 c2 c3 c4 c5 c6 c7 c8 d0 d1 d2 d3 d4 d5 d6 d7 d8
    obtain ⟨c0, c1, c2, c3, c4, c5, c6, c7, c8⟩ := H2.out.1.c9; obtain ⟨d0, d1, d2, d3, d4, d5, d6, d7, d8⟩ := H2.out.2.c9
    go_wp2_with fail
    refine (K1.out _).mono ?_
    rintro e X ⟨rfl, hb⟩
    replace H2 := Lib.hid (H2.out.below hb)
    replace HB := Lib.hid (HB.out.trans (hb.mono HB.out.size))
    clear hb c0 c1 c2 c3 c4 c5 c6 c7 c8 d0 d1 d2 d3 d4 d5 d6 d7 d8
    obtain ⟨c0, c1, c2, c3, c4, c5, c6, c7, c8⟩ := H2.out.1.c9; obtain ⟨d0, d1, d2, d3, d4, d5, d6, d7, d8⟩ := H2.out.2.c9
    go_wp2_with fail
    refine (K2.out _).mono ?_
    rintro e X ⟨rfl, hb⟩
    replace H2 := Lib.hid (H2.out.below hb)
    replace HB := Lib.hid (HB.out.trans (hb.mono HB.out.size))
    clear hb c0 c1 c2 c3 c4 c5 c6 c7 c8 d0 d1 d2 d3 d4 d5 d6 d7 d8
    obtain ⟨c0, c1, c2, c3, c4, c5, c6, c7, c8⟩ := H2.out.1.c9; obtain ⟨d0, d1, d2, d3, d4, d5, d6, d7, d8⟩ := H2.out.2.c9
    go_wp2_with fail
    refine (KC.out _).mono ?_
    rintro e X ⟨rfl, hb⟩
    replace H2 := Lib.hid (H2.out.below hb)
    replace HB := Lib.hid (HB.out.trans (hb.mono HB.out.size))
    clear hb c0 c1 c2 c3 c4 c5 c6 c7 c8 d0 d1 d2 d3 d4 d5 d6 d7 d8
    obtain ⟨c0, c1, c2, c3, c4, c5, c6, c7, c8⟩ := H2.out.1.c9; obtain ⟨d0, d1, d2, d3, d4, d5, d6, d7, d8⟩ := H2.out.2.c9
    go_wp2_with fail
    refine (KM.out _).mono ?_
    rintro e X ⟨rfl, hb⟩
    replace H2 := Lib.hid (H2.out.below hb)
    replace HB := Lib.hid (HB.out.trans (hb.mono HB.out.size))
    clear hb c0 c1 c2 c3 c4 c5 c6 c7 c8 d0 d1 d2 d3 d4 d5 d6 d7 d8
    obtain ⟨c0, c1, c2, c3, c4, c5, c6, c7, c8⟩ := H2.out.1.c9; obtain ⟨d0, d1, d2, d3, d4, d5, d6, d7, d8⟩ := H2.out.2.c9
    go_wp2_with fail
    go_ret
    exact ⟨rfl, HB.out⟩
  · have hf' : okVec f = false := by simpa using hf
    have K1 := Lib.hid (fun W => Check_bad f hf' W)
    clear hbad hf hf'
    go_enter Try.func4, Try.ntmps4
    unfold vec
    go_wp2_with fail
    refine (wakes_any _).mono ?_
    rintro e X ⟨rfl, hb⟩
    have H2 := Lib.hid (HT.out X hb)
    have HB := Lib.hid (HW.out.trans (hb.mono HW.out.size))
    clear hb HT HW
    obtain ⟨c0, c1, c2, c3, c4, c5, c6, c7, c8⟩ := H2.out.1.c9; obtain ⟨d0, d1, d2, d3, d4, d5, d6, d7, d8⟩ := H2.out.2.c9
    go_wp2_with fail
    refine (KL.out _).mono ?_
    rintro e X ⟨rfl, hb⟩
    replace H2 := Lib.hid (H2.out.below hb)
    replace HB := Lib.hid (HB.out.trans (hb.mono HB.out.size))
    clear hb c0 c1 c2 c3 c4 c5 c6 c7 c8 d0 d1 d2 d3 d4 d5 d6 d7 d8
    obtain ⟨c0, c1, c2, c3, c4, c5, c6, c7, c8⟩ := H2.out.1.c9; obtain ⟨d0, d1, d2, d3, d4, d5, d6, d7, d8⟩ := H2.out.2.c9
    go_wp2_with fail
    refine (K1.out _).mono ?_
    rintro e X ⟨rfl, hb⟩
    replace H2 := Lib.hid (H2.out.below hb)
    replace HB := Lib.hid (HB.out.trans (hb.mono HB.out.size))
    clear hb c0 c1 c2 c3 c4 c5 c6 c7 c8 d0 d1 d2 d3 d4 d5 d6 d7 d8
    obtain ⟨c0, c1, c2, c3, c4, c5, c6, c7, c8⟩ := H2.out.1.c9; obtain ⟨d0, d1, d2, d3, d4, d5, d6, d7, d8⟩ := H2.out.2.c9
    go_wp2_with fail
    refine (KC.out _).mono ?_
    rintro e X ⟨rfl, hb⟩
    replace H2 := Lib.hid (H2.out.below hb)
    replace HB := Lib.hid (HB.out.trans (hb.mono HB.out.size))
    clear hb c0 c1 c2 c3 c4 c5 c6 c7 c8 d0 d1 d2 d3 d4 d5 d6 d7 d8
    obtain ⟨c0, c1, c2, c3, c4, c5, c6, c7, c8⟩ := H2.out.1.c9; obtain ⟨d0, d1, d2, d3, d4, d5, d6, d7, d8⟩ := H2.out.2.c9
    go_wp2_with fail
    refine (KM.out _).mono ?_
    rintro e X ⟨rfl, hb⟩
    replace H2 := Lib.hid (H2.out.below hb)
    replace HB := Lib.hid (HB.out.trans (hb.mono HB.out.size))
    clear hb c0 c1 c2 c3 c4 c5 c6 c7 c8 d0 d1 d2 d3 d4 d5 d6 d7 d8
    obtain ⟨c0, c1, c2, c3, c4, c5, c6, c7, c8⟩ := H2.out.1.c9; obtain ⟨d0, d1, d2, d3, d4, d5, d6, d7, d8⟩ := H2.out.2.c9
    go_wp2_with fail
    go_ret
    exact ⟨rfl, HB.out⟩
end Go.Proofs.Ytoiaecfiinkmjaa
