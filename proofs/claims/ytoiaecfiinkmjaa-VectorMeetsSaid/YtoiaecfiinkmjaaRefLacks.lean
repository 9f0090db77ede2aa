/- gessoref13.Lacks: its contract. -/
import Derived.Test.YtoiaecfiinkmjaaRefMany
import Derived.Deep.DeepCutAuto
namespace Go.Proofs.Ytoiaecfiinkmjaa
open Go.RowKit Go.Shelf

theorem own_mono {w : World} {base base' : Nat} {e : TypeId} {size : Nat} {v : Value} {n : Nat} {xs : List Value} (h : w.ownsRow base e size v n xs) (hb : base' ≤ base) : w.ownsRow base' e size v n xs := by
  refine ⟨h.1, ?_⟩
  rcases h.2 with hn | ⟨g, cap, cur, rfl, hg, rest⟩
  · exact .inl hn
  · exact .inr ⟨g, cap, cur, rfl, Nat.le_trans hb hg, rest⟩

set_option maxRecDepth 100000 in
set_option maxHeartbeats 2000000 in
theorem RLacks_bad (f g : Nat → Int) (w : World) (hbad : ¬ (okVec f = true ∧ okVec g = true)) :
    Calls Try.prog 21 #[vec f, vec g] w (Ret (.slice none 0 0) w) := by
  obtain ⟨W0, hW0⟩ : ∃ W0, (w.alloc (.cells (vecC f) 24)).alloc (.cells (vecC g) 24) = W0 := ⟨_, rfl⟩
  have HT : Hid (Two W0 w.heap.size (w.heap.size + 1) f g) := by rw [← hW0]; exact Two.of (Below.refl _ _)
  have HW : Hid (Below w.heap.size w W0) := by rw [← hW0]; show Below _ _ _; go_grown
  have HE := Lib.hid hW0
  have HBAD := Lib.hid hbad
  clear hW0 hbad
  go_enter Try.func21, Try.ntmps21
  unfold vec
  go_upto_region 1 with fail
  rw [show ∀ T, (w.alloc (.cells #[.int .u64 (f 0), .int .u64 (f 1), .int .u64 (f 2), .int .u64 (f 3), .int .u64 (f 4), .int .u64 (f 5), .int .u64 (f 6), .int .u64 (f 7), .int .u64 (f 8)] T)).alloc (.cells #[.int .u64 (g 0), .int .u64 (g 1), .int .u64 (g 2), .int .u64 (g 3), .int .u64 (g 4), .int .u64 (g 5), .int .u64 (g 6), .int .u64 (g 7), .int .u64 (g 8)] T) = (w.alloc (.cells (vecC f) T)).alloc (.cells (vecC g) T) from fun _ => rfl, HE.out]
  go_wp2_with fail
  go_loopw [5, 6] (fun s5 s6 wr => s5 = .slice none 0 0 ∧ ∃ j : Nat, j ≤ 8 ∧ s6 = .int .i64 ((j : Int) + 1) ∧ Below W0.heap.size W0 wr) (fun _ s6 _ => 9 - (intOf s6).toNat)
  case atStart => exact ⟨rfl, 0, by omega, rfl, Below.refl _ _⟩
  case round =>
    obtain ⟨rfl, j, hj, rfl, hBr⟩ := hrel
    have HBr := Lib.hid hBr
    clear hBr
    by_cases hj8 : j < 8
    · have hle : (j : Int) + 1 ≤ 8 := by omega
      cases hf : okVec f with
      | false =>
        have R1 : Hid (∀ W, Calls Try.prog 27 #[vec f] W (Ret (.bool false) W)) := fun W => by have := Right_any f W; rwa [hf] at this
        clear hf
        go_wp2_with fail
        obtain ⟨S, hS⟩ : ∃ S : World → Prop, S = fun X => Below wr.heap.size wr X := ⟨_, rfl⟩
        have HSd : Hid (∀ X, S X → Below wr.heap.size wr X) := by intro X hX; rw [hS] at hX; exact hX
        have HS2 : Hid (∀ X, S X → Two X w.heap.size (w.heap.size + 1) f g) := fun X hX => (HT.out.below HBr.out).below (HSd.out X hX)
        have HSn : Hid (∀ X X', S X → Below X.heap.size X X' → S X') := by intro X X' h hb; rw [hS] at h ⊢; exact h.trans (hb.mono h.size)
        have hS0 : S wr.drew := by rw [hS]; exact (Below.refl _ _).drew
        clear hS
        refine wp_region_held_rel 14 S (fun k u _ => match k with | 1 => u = .bool false | _ => True) rfl (by kernel_rfl) (by kernel_rfl) (by kernel_rfl) (fun _ _ _ _ _ h => h) hS0 ?_
        clear hS0
        simp only [List.take_succ_cons, List.take_zero, List.drop_succ_cons, List.drop_zero]
        refine relSeq_on rfl (fun K hK w1 hS1 hD1 => ?_)
        obtain ⟨d0, d1, d2, d3, d4, d5, d6, d7, d8⟩ := (HS2.out w1 hS1).1.c9
        go_simp
        refine ⟨⟨trivial, hS1, Below.refl _ _⟩, hK _ ?_⟩
        clear hK hD1 d0 d1 d2 d3 d4 d5 d6 d7 d8 hS1 K w1
        refine relSeq_on rfl (fun K hK w1 hS1 hD1 => ?_)
        go_simp
        refine ⟨(R1.out w1).mono fun e w2 he => ⟨_, he.1, rfl, HSn.out _ _ hS1 he.2, he.2⟩, fun v hv => ?_⟩
        obtain ⟨_, _, hv⟩ := hv.out
        obtain rfl : v = .bool false := hv
        refine hK _ ?_
        clear hK hD1 hS1 K w1 hv
        refine relSeq_on rfl (fun K hK w1 hS1 hD1 => ?_)
        go_simp
        refine ⟨⟨trivial, hS1, Below.refl _ _⟩, hK _ ?_⟩
        clear hK hD1 hS1 K w1
        refine relSeq_off rfl (fun _ _ => trivial) (fun K hK => ?_)
        go_simp
        refine hK _ ?_
        clear hK K
        refine relSeq_off rfl (fun _ _ => trivial) (fun K hK => ?_)
        go_simp
        refine hK _ ?_
        clear hK K
        refine relSeq_on rfl (fun K hK w1 hS1 hD1 => ?_)
        go_simp
        refine ⟨⟨trivial, hS1, Below.refl _ _⟩, hK _ ?_⟩
        clear hK hD1 hS1 K w1
        refine relSeq_on rfl (fun K hK w1 hS1 hD1 => ?_)
        go_simp
        refine ⟨⟨trivial, hS1, Below.refl _ _⟩, hK _ ?_⟩
        clear hK hD1 hS1 K w1
        refine relSeq_off rfl (fun _ _ => trivial) (fun K hK => ?_)
        go_simp
        refine hK _ ?_
        clear hK K
        refine relSeq_off rfl (fun _ _ => trivial) (fun K hK => ?_)
        go_simp
        refine hK _ ?_
        clear hK K
        refine relSeq_off rfl (fun _ _ => trivial) (fun K hK => ?_)
        go_simp
        refine hK _ ?_
        clear hK K
        refine relSeq_off rfl (fun _ _ => trivial) (fun K hK => ?_)
        go_simp
        refine hK _ ?_
        clear hK K
        refine relSeq_off rfl (fun _ _ => trivial) (fun K hK => ?_)
        go_simp
        refine hK _ ?_
        clear hK K
        refine relSeq_off rfl (fun _ _ => trivial) (fun K hK => ?_)
        go_simp
        refine hK _ ?_
        clear hK K
        refine relSeq_off rfl (fun _ _ => trivial) (fun K hK => ?_)
        go_simp
        refine hK _ ?_
        clear hK K
        refine relSeq_nil ?_
        intro listed w2 hS2 hF2 hl2
        have HBW := Lib.hid (HSd.out w2 hS2)
        clear hF2 hl2 HSd HS2 HSn hS2
        go_wp2
        go_roundw
        case rel => exact ⟨rfl, j + 1, by omega, by go_num, HBr.out.trans (HBW.out.mono HBr.out.size)⟩
        case measure => simp [intOf]; omega
      | true =>
        have hg : okVec g = false := by
          cases hg : okVec g with
          | false => rfl
          | true => exact absurd ⟨hf, hg⟩ HBAD.out
        have R1 : Hid (∀ W, Calls Try.prog 27 #[vec f] W (Ret (.bool true) W)) := fun W => by have := Right_any f W; rwa [hf] at this
        have R2 : Hid (∀ W, Calls Try.prog 27 #[vec g] W (Ret (.bool false) W)) := fun W => by have := Right_any g W; rwa [hg] at this
        clear hf hg
        go_wp2_with fail
        obtain ⟨S, hS⟩ : ∃ S : World → Prop, S = fun X => Below wr.heap.size wr X := ⟨_, rfl⟩
        have HSd : Hid (∀ X, S X → Below wr.heap.size wr X) := by intro X hX; rw [hS] at hX; exact hX
        have HS2 : Hid (∀ X, S X → Two X w.heap.size (w.heap.size + 1) f g) := fun X hX => (HT.out.below HBr.out).below (HSd.out X hX)
        have HSn : Hid (∀ X X', S X → Below X.heap.size X X' → S X') := by intro X X' h hb; rw [hS] at h ⊢; exact h.trans (hb.mono h.size)
        have hS0 : S wr.drew := by rw [hS]; exact (Below.refl _ _).drew
        clear hS
        refine wp_region_held_rel 14 S (fun k u _ => match k with | 1 => u = .bool true | 4 => u = .bool false | _ => True) rfl (by kernel_rfl) (by kernel_rfl) (by kernel_rfl) (fun _ _ _ _ _ h => h) hS0 ?_
        clear hS0
        simp only [List.take_succ_cons, List.take_zero, List.drop_succ_cons, List.drop_zero]
        refine relSeq_on rfl (fun K hK w1 hS1 hD1 => ?_)
        obtain ⟨d0, d1, d2, d3, d4, d5, d6, d7, d8⟩ := (HS2.out w1 hS1).1.c9
        go_simp
        refine ⟨⟨trivial, hS1, Below.refl _ _⟩, hK _ ?_⟩
        clear hK hD1 d0 d1 d2 d3 d4 d5 d6 d7 d8 hS1 K w1
        refine relSeq_on rfl (fun K hK w1 hS1 hD1 => ?_)
        go_simp
        refine ⟨(R1.out w1).mono fun e w2 he => ⟨_, he.1, rfl, HSn.out _ _ hS1 he.2, he.2⟩, fun v hv => ?_⟩
        obtain ⟨_, _, hv⟩ := hv.out
        obtain rfl : v = .bool true := hv
        refine hK _ ?_
        clear hK hD1 hS1 K w1 hv
        refine relSeq_on rfl (fun K hK w1 hS1 hD1 => ?_)
        go_simp
        refine ⟨⟨trivial, hS1, Below.refl _ _⟩, hK _ ?_⟩
        clear hK hD1 hS1 K w1
        refine relSeq_on rfl (fun K hK w1 hS1 hD1 => ?_)
        obtain ⟨d0, d1, d2, d3, d4, d5, d6, d7, d8⟩ := (HS2.out w1 hS1).2.c9
        go_simp
        refine ⟨⟨trivial, hS1, Below.refl _ _⟩, hK _ ?_⟩
        clear hK hD1 d0 d1 d2 d3 d4 d5 d6 d7 d8 hS1 K w1
        refine relSeq_on rfl (fun K hK w1 hS1 hD1 => ?_)
        go_simp
        refine ⟨(R2.out w1).mono fun e w2 he => ⟨_, he.1, rfl, HSn.out _ _ hS1 he.2, he.2⟩, fun v hv => ?_⟩
        obtain ⟨_, _, hv⟩ := hv.out
        obtain rfl : v = .bool false := hv
        refine hK _ ?_
        clear hK hD1 hS1 K w1 hv
        refine relSeq_on rfl (fun K hK w1 hS1 hD1 => ?_)
        go_simp
        refine ⟨⟨trivial, hS1, Below.refl _ _⟩, hK _ ?_⟩
        clear hK hD1 hS1 K w1
        refine relSeq_on rfl (fun K hK w1 hS1 hD1 => ?_)
        go_simp
        refine ⟨⟨trivial, hS1, Below.refl _ _⟩, hK _ ?_⟩
        clear hK hD1 hS1 K w1
        refine relSeq_off rfl (fun _ _ => trivial) (fun K hK => ?_)
        go_simp
        refine hK _ ?_
        clear hK K
        refine relSeq_off rfl (fun _ _ => trivial) (fun K hK => ?_)
        go_simp
        refine hK _ ?_
        clear hK K
        refine relSeq_off rfl (fun _ _ => trivial) (fun K hK => ?_)
        go_simp
        refine hK _ ?_
        clear hK K
        refine relSeq_off rfl (fun _ _ => trivial) (fun K hK => ?_)
        go_simp
        refine hK _ ?_
        clear hK K
        refine relSeq_off rfl (fun _ _ => trivial) (fun K hK => ?_)
        go_simp
        refine hK _ ?_
        clear hK K
        refine relSeq_off rfl (fun _ _ => trivial) (fun K hK => ?_)
        go_simp
        refine hK _ ?_
        clear hK K
        refine relSeq_off rfl (fun _ _ => trivial) (fun K hK => ?_)
        go_simp
        refine hK _ ?_
        clear hK K
        refine relSeq_nil ?_
        intro listed w2 hS2 hF2 hl2
        have HBW := Lib.hid (HSd.out w2 hS2)
        clear hF2 hl2 HSd HS2 HSn hS2
        go_wp2
        go_roundw
        case rel => exact ⟨rfl, j + 1, by omega, by go_num, HBr.out.trans (HBW.out.mono HBr.out.size)⟩
        case measure => simp [intOf]; omega
    · obtain rfl : j = 8 := by omega
      go_wp2
      go_ret
      exact ⟨rfl, HW.out.trans (HBr.out.mono HW.out.size)⟩
end Go.Proofs.Ytoiaecfiinkmjaa
