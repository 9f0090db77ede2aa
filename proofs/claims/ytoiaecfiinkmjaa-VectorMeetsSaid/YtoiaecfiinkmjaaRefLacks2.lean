/- gessoref13.Lacks at two vectors: its contract. -/
import Derived.Test.YtoiaecfiinkmjaaRefLacks
import Derived.Deep.DeepCutAuto
namespace Go.Proofs.Ytoiaecfiinkmjaa
open Go.RowKit Go.Shelf

theorem range_snoc (j : Nat) : List.range' 1 (j + 1) = List.range' 1 j ++ [j + 1] := by rw [List.range'_concat]; simp [Nat.add_comm]

set_option maxRecDepth 100000 in
set_option maxHeartbeats 4000000 in
theorem RLacks_ok (f g : Nat → Int) (hpf : posV f) (w : World) (hf : okVec f = true) (hg : okVec g = true) :
    Calls Try.prog 21 #[vec f, vec g] w fun e w' => ∃ v, e = .returned v ∧ StrOwn w.heap.size w' v (lackOf f g (List.range' 1 8)) ∧ Below w.heap.size w w' := by
  obtain ⟨W0, hW0⟩ : ∃ W0, (w.alloc (.cells (vecC f) 24)).alloc (.cells (vecC g) 24) = W0 := ⟨_, rfl⟩
  have HT : Hid (Two W0 w.heap.size (w.heap.size + 1) f g) := by rw [← hW0]; exact Two.of (Below.refl _ _)
  have HW : Hid (Below w.heap.size w W0) := by rw [← hW0]; show Below _ _ _; go_grown
  have HE := Lib.hid hW0
  have HO := Lib.hid (And.intro hf (And.intro hg hpf))
  have R1 : Hid (∀ W, Calls Try.prog 27 #[vec f] W (Ret (.bool true) W)) := fun W => by have := Right_any f W; rwa [hf] at this
  have R2 : Hid (∀ W, Calls Try.prog 27 #[vec g] W (Ret (.bool true) W)) := fun W => by have := Right_any g W; rwa [hg] at this
  have HI : Hid (∃ i0, Try.prog.info? 36 = some i0 ∧ i0.zero = some (.agg #[.int .i64 0, .int .u64 0, .int .u64 0]) ∧ i0.size = 3 ∧ i0.bytes = 24) := by
    have h := infoStr
    cases e : Try.prog.info? 36 with
    | none => rw [e] at h; cases h
    | some i0 => rw [e] at h; simp at h; exact ⟨i0, rfl, h⟩
  clear hW0 hf hg hpf
  go_enter Try.func21, Try.ntmps21
  unfold vec
  go_upto_region 1 with fail
  rw [show ∀ T, (w.alloc (.cells #[.int .u64 (f 0), .int .u64 (f 1), .int .u64 (f 2), .int .u64 (f 3), .int .u64 (f 4), .int .u64 (f 5), .int .u64 (f 6), .int .u64 (f 7), .int .u64 (f 8)] T)).alloc (.cells #[.int .u64 (g 0), .int .u64 (g 1), .int .u64 (g 2), .int .u64 (g 3), .int .u64 (g 4), .int .u64 (g 5), .int .u64 (g 6), .int .u64 (g 7), .int .u64 (g 8)] T) = (w.alloc (.cells (vecC f) T)).alloc (.cells (vecC g) T) from fun _ => rfl, HE.out]
  go_wp2_with fail
  go_loopw [5, 6] (fun s5 s6 wr => ∃ j : Nat, j ≤ 8 ∧ s6 = .int .i64 ((j : Int) + 1) ∧ Below W0.heap.size W0 wr ∧ wr.ownsRow W0.heap.size 36 3 s5 (lackOf f g (List.range' 1 j)).length (strCells (lackOf f g (List.range' 1 j))) ∧ (s5 = .slice none 0 0 ↔ lackOf f g (List.range' 1 j) = [])) (fun _ s6 _ => 9 - (intOf s6).toNat)
  case atStart => exact ⟨0, by omega, rfl, Below.refl _ _, by simpa [lackOf, strCells] using World.ownsRow_nil W0 W0.heap.size 36 3, by simp [lackOf]⟩
  case round =>
    obtain ⟨j, hj, rfl, hBr, hrow, hnil⟩ := hrel
    obtain ⟨sp, sn, sc, rfl⟩ : ∃ p n c, u5 = .slice p n c := by
      rcases hrow.2 with ⟨rfl, _⟩ | ⟨g, cap, cur, rfl, _⟩ <;> exact ⟨_, _, _, rfl⟩
    have HBr := Lib.hid hBr
    have HROW := Lib.hid (And.intro hrow hnil)
    clear hBr hrow hnil
    by_cases hj8 : j < 8
    · have hle : (j : Int) + 1 ≤ 8 := by omega
      have hk9 : j + 1 < 9 := by omega
      have hk0 : (0 : Int) ≤ (j : Int) + 1 := by omega
      have hk8 : (j : Int) + 1 < 9 := by omega
      go_wp2_with fail
      obtain ⟨S, hS⟩ : ∃ S : World → Prop, S = fun X => Below wr.heap.size wr X := ⟨_, rfl⟩
      have HSd : Hid (∀ X, S X → Below wr.heap.size wr X) := by intro X hX; rw [hS] at hX; exact hX
      have HS2 : Hid (∀ X, S X → Two X w.heap.size (w.heap.size + 1) f g) := fun X hX => (HT.out.below HBr.out).below (HSd.out X hX)
      have HSn : Hid (∀ X X', S X → Below X.heap.size X X' → S X') := by intro X X' h hb; rw [hS] at h ⊢; exact h.trans (hb.mono h.size)
      have hS0 : S wr.drew := by rw [hS]; exact (Below.refl _ _).drew
      clear hS
      refine wp_region_held_rel 14 S (fun k u _ => match k with | 1 => u = .bool true | 4 => u = .bool true | _ => True) rfl (by kernel_rfl) (by kernel_rfl) (by kernel_rfl) (fun _ _ _ _ _ h => h) hS0 ?_
      clear hS0
      simp only [List.take_succ_cons, List.take_zero, List.drop_succ_cons, List.drop_zero]
      refine relSeq_on rfl (fun K hK w1 hS1 hD1 => ?_)
      obtain ⟨d0, d1, d2, d3, d4, d5, d6, d7, d8⟩ := (HS2.out w1 hS1).1.c9
      go_simp
      refine ⟨⟨trivial, hS1, Below.refl _ _⟩, hK _ ?_⟩
      clear hK hD1 d0 d1 d2 d3 d4 d5 d6 d7 d8 hS1 K w1
      refine relSeq_on rfl (fun K hK w1 hS1 hD1 => ?_)
      go_simp
      refine ⟨(R1.out w1).mono fun e w2 he => ⟨_, he.1, rfl, HSn.out _ _ hS1 he.2, he.2⟩, fun v hv => ?_⟩
      obtain ⟨_, _, hv⟩ := hv.out
      obtain rfl : v = .bool true := hv
      refine hK _ ?_
      clear hK hD1 hS1 K w1 hv
      refine relSeq_on rfl (fun K hK w1 hS1 hD1 => ?_)
      go_simp
      refine ⟨⟨trivial, hS1, Below.refl _ _⟩, hK _ ?_⟩
      clear hK hD1 hS1 K w1
      refine relSeq_on rfl (fun K hK w1 hS1 hD1 => ?_)
      obtain ⟨d0, d1, d2, d3, d4, d5, d6, d7, d8⟩ := (HS2.out w1 hS1).2.c9
      go_simp
      refine ⟨⟨trivial, hS1, Below.refl _ _⟩, hK _ ?_⟩
      clear hK hD1 d0 d1 d2 d3 d4 d5 d6 d7 d8 hS1 K w1
      refine relSeq_on rfl (fun K hK w1 hS1 hD1 => ?_)
      go_simp
      refine ⟨(R2.out w1).mono fun e w2 he => ⟨_, he.1, rfl, HSn.out _ _ hS1 he.2, he.2⟩, fun v hv => ?_⟩
      obtain ⟨_, _, hv⟩ := hv.out
      obtain rfl : v = .bool true := hv
      refine hK _ ?_
      clear hK hD1 hS1 K w1 hv
      refine relSeq_on rfl (fun K hK w1 hS1 hD1 => ?_)
      go_simp
      refine ⟨⟨trivial, hS1, Below.refl _ _⟩, hK _ ?_⟩
      clear hK hD1 hS1 K w1
      refine relSeq_on rfl (fun K hK w1 hS1 hD1 => ?_)
      go_simp
      refine ⟨⟨trivial, hS1, Below.refl _ _⟩, hK _ ?_⟩
      clear hK hD1 hS1 K w1
      by_cases hlt : f (j + 1) < g (j + 1)
      · skip
        refine relSeq_on rfl (fun K hK w1 hS1 hD1 => ?_)
        go_simp
        refine ⟨⟨trivial, hS1, Below.refl _ _⟩, hK _ ?_⟩
        clear hK hD1 hS1 K w1
        refine relSeq_on rfl (fun K hK w1 hS1 hD1 => ?_)
        go_simp
        refine ⟨⟨trivial, hS1, Below.refl _ _⟩, hK _ ?_⟩
        clear hK hD1 hS1 K w1
        refine relSeq_on rfl (fun K hK w1 hS1 hD1 => ?_)
        have dx := ((HS2.out w1 hS1).2.cell (j + 1)).trans (vecC_get g hk9)
        go_simp
        refine ⟨⟨trivial, hS1, Below.refl _ _⟩, hK _ ?_⟩
        clear hK hD1 dx hS1 K w1
        refine relSeq_on rfl (fun K hK w1 hS1 hD1 => ?_)
        go_simp
        refine ⟨⟨trivial, hS1, Below.refl _ _⟩, hK _ ?_⟩
        clear hK hD1 hS1 K w1
        refine relSeq_on rfl (fun K hK w1 hS1 hD1 => ?_)
        go_simp
        refine ⟨⟨trivial, hS1, Below.refl _ _⟩, hK _ ?_⟩
        clear hK hD1 hS1 K w1
        refine relSeq_on rfl (fun K hK w1 hS1 hD1 => ?_)
        have dx := ((HS2.out w1 hS1).1.cell (j + 1)).trans (vecC_get f hk9)
        go_simp
        refine ⟨⟨trivial, hS1, Below.refl _ _⟩, hK _ ?_⟩
        clear hK hD1 dx hS1 K w1
        refine relSeq_on rfl (fun K hK w1 hS1 hD1 => ?_)
        go_simp
        refine ⟨⟨trivial, hS1, Below.refl _ _⟩, hK _ ?_⟩
        clear hK hD1 hS1 K w1
        refine relSeq_nil ?_
        intro listed w2 hS2 hF2 hl2
        have hbw := HSd.out w2 hS2
        have HB2 := Lib.hid (HBr.out.trans (hbw.mono HBr.out.size))
        have HROW2 := Lib.hid (And.intro (own_below HROW.out.1 hbw) HROW.out.2)
        have hwrap : IntKind.u64.wrap (f (j + 1) + 1) = f (j + 1) + 1 := IntWalk.u64_in _ (by have := HO.out.2.2 (j + 1); have := okVec_le HO.out.1 hk9; unfold maxT at this; omega)
        clear hF2 hl2 HSd HS2 HSn hS2 hbw
        go_wp2_with fail
        clear HBr HROW
        obtain ⟨S, hS⟩ : ∃ S : World → Prop, S = fun X => Below w2.heap.size w2 X := ⟨_, rfl⟩
        have HSd : Hid (∀ X, S X → Below w2.heap.size w2 X) := by intro X hX; rw [hS] at hX; exact hX
        have HS2 : Hid (∀ X, S X → Two X w.heap.size (w.heap.size + 1) f g) := fun X hX => (HT.out.below HB2.out).below (HSd.out X hX)
        have HSn : Hid (∀ X X', S X → Below X.heap.size X X' → S X') := by intro X X' h hb; rw [hS] at h ⊢; exact h.trans (hb.mono h.size)
        have hS0 : S w2.drew := by rw [hS]; exact (Below.refl _ _).drew
        clear hS
        refine wp_region_held_rel 11 S (fun k u X => match k with | 10 => ∃ b, u = .slice (some ⟨b, 0, none⟩) 1 1 ∧ Blk X b 36 #[.int .i64 ((j : Int) + 1), .int .u64 (f (j + 1) + 1), .int .u64 (g (j + 1))] | _ => True) rfl (by kernel_rfl) (by kernel_rfl) (by kernel_rfl) (by
          intro k u X X' hb hF
          match k, hF with
          | 10, ⟨b, e, hb'⟩ => exact ⟨b, e, hb'.below hb hb'.lt⟩
          | 0, _ | 1, _ | 2, _ | 3, _ | 4, _ | 5, _ | 6, _ | 7, _ | 8, _ | 9, _ => trivial
          | (n + 11), _ => trivial) hS0 ?_
        clear hS0
        simp only [List.take_succ_cons, List.take_zero, List.drop_succ_cons, List.drop_zero]
        refine relSeq_on rfl (fun K hK w1 hS1 hD1 => ?_)
        go_simp
        refine ⟨⟨trivial, hS1, Below.refl _ _⟩, hK _ ?_⟩
        clear hK hD1 hS1 K w1
        refine relSeq_on rfl (fun K hK w1 hS1 hD1 => ?_)
        go_simp
        refine ⟨⟨trivial, hS1, Below.refl _ _⟩, hK _ ?_⟩
        clear hK hD1 hS1 K w1
        refine relSeq_on rfl (fun K hK w1 hS1 hD1 => ?_)
        go_simp
        refine ⟨⟨trivial, hS1, Below.refl _ _⟩, hK _ ?_⟩
        clear hK hD1 hS1 K w1
        refine relSeq_on rfl (fun K hK w1 hS1 hD1 => ?_)
        go_simp
        refine ⟨⟨trivial, hS1, Below.refl _ _⟩, hK _ ?_⟩
        clear hK hD1 hS1 K w1
        refine relSeq_on rfl (fun K hK w1 hS1 hD1 => ?_)
        have dx := ((HS2.out w1 hS1).1.cell (j + 1)).trans (vecC_get f hk9)
        go_simp
        refine ⟨⟨trivial, hS1, Below.refl _ _⟩, hK _ ?_⟩
        clear hK hD1 dx hS1 K w1
        refine relSeq_on rfl (fun K hK w1 hS1 hD1 => ?_)
        go_simp
        refine ⟨⟨trivial, hS1, Below.refl _ _⟩, hK _ ?_⟩
        clear hK hD1 hS1 K w1
        refine relSeq_on rfl (fun K hK w1 hS1 hD1 => ?_)
        go_simp
        refine ⟨⟨trivial, hS1, Below.refl _ _⟩, hK _ ?_⟩
        clear hK hD1 hS1 K w1
        refine relSeq_on rfl (fun K hK w1 hS1 hD1 => ?_)
        go_simp
        refine ⟨⟨trivial, hS1, Below.refl _ _⟩, hK _ ?_⟩
        clear hK hD1 hS1 K w1
        refine relSeq_on rfl (fun K hK w1 hS1 hD1 => ?_)
        have dx := ((HS2.out w1 hS1).2.cell (j + 1)).trans (vecC_get g hk9)
        go_simp
        refine ⟨⟨trivial, hS1, Below.refl _ _⟩, hK _ ?_⟩
        clear hK hD1 dx hS1 K w1
        refine relSeq_on rfl (fun K hK w1 hS1 hD1 => ?_)
        go_simp
        refine ⟨⟨trivial, hS1, Below.refl _ _⟩, hK _ ?_⟩
        clear hK hD1 hS1 K w1
        refine relSeq_on rfl (fun K hK w1 hS1 hD1 => ?_)
        go_simp
        refine ⟨⟨⟨_, rfl, Blk.new _ _ _⟩, HSn.out _ _ hS1 ((Below.refl _ _).alloc (Nat.le_refl _) _), (Below.refl _ _).alloc (Nat.le_refl _) _⟩, hK _ ?_⟩
        generalize w1.heap.size = b8
        clear hK hD1 hS1 K w1
        refine relSeq_nil ?_
        intro listed w3 hS2 hF2 hl2
        obtain ⟨b9, he9, hb9⟩ := hF2 10 _ _ rfl rfl (hl2 10 (by omega))
        obtain rfl : b9 = b8 := by simp at he9; exact he9.symm
        have hbw := HSd.out w3 hS2
        clear hF2 hl2 he9 HSd HS2 HSn hS2
        have hrow3 := own_below HROW2.out.1 hbw
        have HB3 := Lib.hid (HB2.out.trans (hbw.mono HB2.out.size))
        have hlen8 : (lackOf f g (List.range' 1 j)).length ≤ 8 := Nat.le_trans (lackOf_length _ _ _) (by simp; omega)
        obtain ⟨i0, hi, hz0, hz1, hz2⟩ := HI.out
        refine wpList_append_own _ rfl _ _ 31 rfl W0.heap.size 36 i0 (.agg #[.int .i64 0, .int .u64 0, .int .u64 0]) 3 24 Try.underlying31 hi hz0 hz1 hz2 rfl (by decide) (.slice sp sn sc) _ _ rfl hrow3 ⟨b9, 0, none⟩ 1 1 [.int .i64 ((j : Int) + 1), .int .u64 (f (j + 1) + 1), .int .u64 (g (j + 1))] rfl rfl ?news ?one (by unfold maxLen; omega) (by omega) HB3.out.size ?_
        case news => intro i u hu; rw [show (⟨b9, 0, none⟩ : Addr).add i = ⟨b9, i, none⟩ from by simp [Addr.add]; omega, hb9.cell]; simpa using hu
        case one => intro u hu; simp at hu; rcases hu with rfl | rfl | rfl <;> rfl
        intro v' w4 hown' hgrow' hnil'
        have HB4 : Hid (Below W0.heap.size W0 w4) := HB3.out.grown hgrow' HB3.out.size (fun i ei => by
          rcases hrow3.2 with ⟨h0, _⟩ | ⟨g0, cap, cur, h0, hb0, _⟩
          · rw [h0] at ei; simp [Value.ownBlock] at ei
          · rw [h0] at ei; obtain rfl : g0 = i := by simpa [Value.ownBlock] using ei
            exact hb0)
        obtain ⟨g1, cap1, rfl⟩ := ownsRow_succ hown'
        have HOWN := Lib.hid hown'
        clear hown' hgrow' hnil' hrow3 hbw hi hz0 hz1 hz2 hb9
        go_wp2
        go_roundw
        case rel =>
          have hsn : lackOf f g (List.range' 1 (j + 1)) = lackOf f g (List.range' 1 j) ++ [⟨((j + 1 : Nat) : Int), f (j + 1) + 1, g (j + 1)⟩] := by rw [range_snoc]; exact lackOf_snoc_yes hlt
          refine ⟨j + 1, by omega, by go_num, HB4.out, by rw [hsn, strCells_snoc, List.length_append]; exact HOWN.out, ?_⟩
          rw [hsn]
          constructor <;> intro h0 <;> simp at h0
        case measure => simp [intOf]; omega
      · skip
        refine relSeq_on rfl (fun K hK w1 hS1 hD1 => ?_)
        go_simp
        refine ⟨⟨trivial, hS1, Below.refl _ _⟩, hK _ ?_⟩
        clear hK hD1 hS1 K w1
        refine relSeq_on rfl (fun K hK w1 hS1 hD1 => ?_)
        go_simp
        refine ⟨⟨trivial, hS1, Below.refl _ _⟩, hK _ ?_⟩
        clear hK hD1 hS1 K w1
        refine relSeq_on rfl (fun K hK w1 hS1 hD1 => ?_)
        have dx := ((HS2.out w1 hS1).2.cell (j + 1)).trans (vecC_get g hk9)
        go_simp
        refine ⟨⟨trivial, hS1, Below.refl _ _⟩, hK _ ?_⟩
        clear hK hD1 dx hS1 K w1
        refine relSeq_on rfl (fun K hK w1 hS1 hD1 => ?_)
        go_simp
        refine ⟨⟨trivial, hS1, Below.refl _ _⟩, hK _ ?_⟩
        clear hK hD1 hS1 K w1
        refine relSeq_on rfl (fun K hK w1 hS1 hD1 => ?_)
        go_simp
        refine ⟨⟨trivial, hS1, Below.refl _ _⟩, hK _ ?_⟩
        clear hK hD1 hS1 K w1
        refine relSeq_on rfl (fun K hK w1 hS1 hD1 => ?_)
        have dx := ((HS2.out w1 hS1).1.cell (j + 1)).trans (vecC_get f hk9)
        go_simp
        refine ⟨⟨trivial, hS1, Below.refl _ _⟩, hK _ ?_⟩
        clear hK hD1 dx hS1 K w1
        refine relSeq_on rfl (fun K hK w1 hS1 hD1 => ?_)
        go_simp
        refine ⟨⟨trivial, hS1, Below.refl _ _⟩, hK _ ?_⟩
        clear hK hD1 hS1 K w1
        refine relSeq_nil ?_
        intro listed w2 hS2 hF2 hl2
        have hbw := HSd.out w2 hS2
        have HB2 := Lib.hid (HBr.out.trans (hbw.mono HBr.out.size))
        have HROW2 := Lib.hid (And.intro (own_below HROW.out.1 hbw) HROW.out.2)
        clear hF2 hl2 HSd HS2 HSn hS2 hbw
        go_wp2
        go_roundw
        case rel =>
          have hsn : lackOf f g (List.range' 1 (j + 1)) = lackOf f g (List.range' 1 j) := by rw [range_snoc]; exact lackOf_snoc_no hlt
          exact ⟨j + 1, by omega, by go_num, HB2.out, by rw [hsn]; exact HROW2.out.1, by rw [hsn]; exact HROW2.out.2⟩
        case measure => simp [intOf]; omega
    · obtain rfl : j = 8 := by omega
      go_wp2
      go_ret
      exact ⟨_, rfl, ⟨own_mono HROW.out.1 HW.out.size, HROW.out.2⟩, HW.out.trans (HBr.out.mono HW.out.size)⟩
end Go.Proofs.Ytoiaecfiinkmjaa
