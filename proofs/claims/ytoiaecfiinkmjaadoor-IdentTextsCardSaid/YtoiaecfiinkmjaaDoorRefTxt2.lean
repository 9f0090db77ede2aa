/- gessoref11.Text: its contract. -/
import Derived.Test.YtoiaecfiinkmjaaDoorRefTxt
import Derived.Test.YtoiaecfiinkmjaaDoorHeld
import Derived.Deep.DeepCutAuto
namespace Go.Proofs.YtoiaecfiinkmjaaDoor
open Go.RowKit Go.Shelf Go.Lib

theorem ba_app (a b : List UInt8) : (⟨a.toArray⟩ : ByteArray) ++ (⟨b.toArray⟩ : ByteArray) = ⟨(a ++ b).toArray⟩ := by apply ByteArray.ext; simp

set_option maxRecDepth 100000 in
set_option maxHeartbeats 2000000 in
theorem RText_any (t : Nat) (s : Int) (q : Nat) (ht : t < 18446744073709551616) (hs0 : -9223372036854775808 ≤ s) (hs1 : s ≤ 9223372036854775807) (hq : q < 18446744073709551616) (w : World) :
    Calls Tryd.prog 11 #[idV t s q] w (Ret (strV (textOf t s q)) w) := by
  have HX := Lib.hid (Blk.new w 27 #[.int .u64 t, .int .i64 s, .int .u64 q])
  have HW : Hid (Below w.heap.size w (w.alloc (.cells #[.int .u64 t, .int .i64 s, .int .u64 q] 27))) := (Below.refl _ _).alloc (Nat.le_refl _) _
  have C1 := Lib.hid (fun W => RDigits_any t W ht)
  have C3 := Lib.hid (fun W => RDigits_any q W hq)
  have C2 := Lib.hid (fun W => RDigits_any s.natAbs W (by omega))
  have HE : Hid (textOf t s q = Lib.decDigits t ++ 46 :: (Lib.itoa s ++ 46 :: Lib.decDigits q)) := rfl
  have hl1 := dec_len ht
  have hl2 := itoa_len hs0 hs1
  have hl3 := dec_len hq
  have HI : Hid (itoa s = if s < 0 then 45 :: decDigits s.natAbs else decDigits s.toNat) := rfl
  have hl4 := dec_len (u := s.natAbs) (by omega)
  generalize textOf t s q = r at HE ⊢
  generalize Lib.decDigits t = l1 at C1 HE hl1
  generalize Lib.itoa s = l2 at HE hl2 HI
  generalize Lib.decDigits q = l3 at C3 HE hl3
  have hA1 := fun w => add_str l1 [46] (by simp; omega) w
  have hA2 := fun w => add_str (l1 ++ [46]) l2 (by simp; omega) w
  have hA3 := fun w => add_str (l1 ++ 46 :: l2) [46] (by simp; omega) w
  have hA4 := fun w => add_str (l1 ++ 46 :: (l2 ++ [46])) l3 (by simp; omega) w
  have x0 := HX.out.cell 1
  simp at x0
  by_cases hneg : s < 0
  · have hd : decide (s < 0) = true := by simpa using hneg
    have hl2' : l2 = 45 :: decDigits s.natAbs := by have := HI.out; rwa [if_pos hneg] at this
    have hw1 : IntKind.i64.wrap (s + 1) = s + 1 := IntWalk.i64_in _ (by omega)
    have hw2 : IntKind.i64.wrap (-(s + 1)) = -(s + 1) := IntWalk.i64_in _ (by omega)
    have hw3 : IntKind.u64.wrap (-(s + 1)) = -(s + 1) := IntWalk.u64_in _ (by omega)
    have hA0 := fun w => add_str [45] (decDigits s.natAbs) (by simp; omega) w
    have hw4 : IntKind.u64.wrap (-(s + 1) + 1) = (s.natAbs : Int) := by rw [IntWalk.u64_in _ (by omega)]; omega
    go_enter Tryd.func11, Tryd.ntmps11
    go_wp2_with fail
    refine (C2.out _).mono ?_
    rintro e W ⟨rfl, hb⟩
    replace HX := Lib.hid (HX.out.below hb HX.out.lt)
    replace HW := Lib.hid (HW.out.trans (hb.mono HW.out.size))
    clear hb x0
    go_upto_region 5 with fail
    subst hl2'
    have hlenA : ¬ 9223372036854775807 < l1.length + ((decDigits s.natAbs).length + 1 + 1 + 1) + l3.length := by omega
    generalize w.heap.size = p1 at HX ⊢
    obtain ⟨S, hS⟩ : ∃ S : World → Prop, S = fun Y => Below W.heap.size W Y := ⟨_, rfl⟩
    have HSd : Hid (∀ Y, S Y → Below W.heap.size W Y) := by intro Y hY; rw [hS] at hY; exact hY
    have HSx : Hid (∀ Y, S Y → Y.cell? ⟨p1, 0, none⟩ = some (.int .u64 t) ∧ Y.cell? ⟨p1, 1, none⟩ = some (.int .i64 s) ∧ Y.cell? ⟨p1, 2, none⟩ = some (.int .u64 q)) := fun Y hY => by
      have h := HX.out.below (HSd.out Y hY) HX.out.lt
      exact ⟨h.cell 0, h.cell 1, h.cell 2⟩
    have HSn : Hid (∀ Y Y', S Y → Below Y.heap.size Y Y' → S Y') := by intro Y Y' hY hb; rw [hS] at hY ⊢; exact hY.trans (hb.mono hY.size)
    have hS0 : S W.drew := by rw [hS]; exact (Below.refl _ _).drew
    clear hS
    refine wp_region_held_rel 11 S (fun k u Y => match k with | 2 => u = strV l1 | 9 => u = strV l3 | _ => True) rfl (by kernel_rfl) (by kernel_rfl) (by kernel_rfl) (fun _ _ _ _ _ h => h) hS0 ?_
    clear hS0
    simp only [List.take_succ_cons, List.take_zero, List.drop_succ_cons, List.drop_zero]
    refine relSeq_on rfl (fun K hK w1 hS1 hD1 => ?_)
    obtain ⟨i0, i1, i2⟩ := HSx.out w1 hS1
    go_simp
    refine ⟨⟨trivial, hS1, Below.refl _ _⟩, hK _ ?_⟩
    clear hK hD1 i0 i1 i2 hS1 K w1
    refine relSeq_on rfl (fun K hK w1 hS1 hD1 => ?_)
    obtain ⟨i0, i1, i2⟩ := HSx.out w1 hS1
    go_simp
    refine ⟨⟨trivial, hS1, Below.refl _ _⟩, hK _ ?_⟩
    clear hK hD1 i0 i1 i2 hS1 K w1
    refine relSeq_on rfl (fun K hK w1 hS1 hD1 => ?_)
    go_simp
    refine ⟨(C1.out w1).mono fun e w2 he => ⟨_, he.1, rfl, HSn.out _ _ hS1 he.2, he.2⟩, fun v hv => ?_⟩
    obtain ⟨_, _, hv⟩ := hv.out
    obtain rfl : v = strV l1 := hv
    refine hK _ ?_
    clear hK hD1 hS1 K w1 hv
    refine relSeq_on rfl (fun K hK w1 hS1 hD1 => ?_)
    obtain ⟨i0, i1, i2⟩ := HSx.out w1 hS1
    go_simp
    refine ⟨⟨trivial, hS1, Below.refl _ _⟩, hK _ ?_⟩
    clear hK hD1 i0 i1 i2 hS1 K w1
    refine relSeq_on rfl (fun K hK w1 hS1 hD1 => ?_)
    obtain ⟨i0, i1, i2⟩ := HSx.out w1 hS1
    go_simp
    refine ⟨⟨trivial, hS1, Below.refl _ _⟩, hK _ ?_⟩
    clear hK hD1 i0 i1 i2 hS1 K w1
    refine relSeq_on rfl (fun K hK w1 hS1 hD1 => ?_)
    obtain ⟨i0, i1, i2⟩ := HSx.out w1 hS1
    go_simp
    refine ⟨⟨trivial, hS1, Below.refl _ _⟩, hK _ ?_⟩
    clear hK hD1 i0 i1 i2 hS1 K w1
    refine relSeq_on rfl (fun K hK w1 hS1 hD1 => ?_)
    obtain ⟨i0, i1, i2⟩ := HSx.out w1 hS1
    go_simp
    refine ⟨⟨trivial, hS1, Below.refl _ _⟩, hK _ ?_⟩
    clear hK hD1 i0 i1 i2 hS1 K w1
    refine relSeq_on rfl (fun K hK w1 hS1 hD1 => ?_)
    obtain ⟨i0, i1, i2⟩ := HSx.out w1 hS1
    go_simp
    refine ⟨⟨trivial, hS1, Below.refl _ _⟩, hK _ ?_⟩
    clear hK hD1 i0 i1 i2 hS1 K w1
    refine relSeq_on rfl (fun K hK w1 hS1 hD1 => ?_)
    obtain ⟨i0, i1, i2⟩ := HSx.out w1 hS1
    go_simp
    refine ⟨⟨trivial, hS1, Below.refl _ _⟩, hK _ ?_⟩
    clear hK hD1 i0 i1 i2 hS1 K w1
    refine relSeq_on rfl (fun K hK w1 hS1 hD1 => ?_)
    go_simp
    refine ⟨(C3.out w1).mono fun e w2 he => ⟨_, he.1, rfl, HSn.out _ _ hS1 he.2, he.2⟩, fun v hv => ?_⟩
    obtain ⟨_, _, hv⟩ := hv.out
    obtain rfl : v = strV l3 := hv
    refine hK _ ?_
    clear hK hD1 hS1 K w1 hv
    refine relSeq_on rfl (fun K hK w1 hS1 hD1 => ?_)
    obtain ⟨i0, i1, i2⟩ := HSx.out w1 hS1
    go_simp
    refine ⟨⟨trivial, hS1, Below.refl _ _⟩, hK _ ?_⟩
    clear hK hD1 i0 i1 i2 hS1 K w1
    refine relSeq_nil ?_
    intro listed w9 hS2 hF2 hl2
    have HB := Lib.hid (HW.out.trans ((HSd.out w9 hS2).mono HW.out.size))
    clear hF2 hl2 hS2 HSd HSx HSn
    go_wp2
    go_ret
    rw [HE.out]
    refine ⟨?_, HB.out⟩
    first | (simp; done) | (simp [ba_app]; done)
  · have hd : decide (s < 0) = false := by simpa using hneg
    have hl2' : l2 = decDigits s.natAbs := by have := HI.out; rw [if_neg hneg] at this; rw [this]; congr 1; omega
    have hw3 : IntKind.u64.wrap s = (s.natAbs : Int) := by rw [IntWalk.u64_in _ (by omega)]; omega
    go_enter Tryd.func11, Tryd.ntmps11
    go_wp2_with fail
    refine (C2.out _).mono ?_
    rintro e W ⟨rfl, hb⟩
    replace HX := Lib.hid (HX.out.below hb HX.out.lt)
    replace HW := Lib.hid (HW.out.trans (hb.mono HW.out.size))
    clear hb x0
    go_upto_region 5 with fail
    subst hl2'
    generalize w.heap.size = p1 at HX ⊢
    obtain ⟨S, hS⟩ : ∃ S : World → Prop, S = fun Y => Below W.heap.size W Y := ⟨_, rfl⟩
    have HSd : Hid (∀ Y, S Y → Below W.heap.size W Y) := by intro Y hY; rw [hS] at hY; exact hY
    have HSx : Hid (∀ Y, S Y → Y.cell? ⟨p1, 0, none⟩ = some (.int .u64 t) ∧ Y.cell? ⟨p1, 1, none⟩ = some (.int .i64 s) ∧ Y.cell? ⟨p1, 2, none⟩ = some (.int .u64 q)) := fun Y hY => by
      have h := HX.out.below (HSd.out Y hY) HX.out.lt
      exact ⟨h.cell 0, h.cell 1, h.cell 2⟩
    have HSn : Hid (∀ Y Y', S Y → Below Y.heap.size Y Y' → S Y') := by intro Y Y' hY hb; rw [hS] at hY ⊢; exact hY.trans (hb.mono hY.size)
    have hS0 : S W.drew := by rw [hS]; exact (Below.refl _ _).drew
    clear hS
    refine wp_region_held_rel 11 S (fun k u Y => match k with | 2 => u = strV l1 | 9 => u = strV l3 | _ => True) rfl (by kernel_rfl) (by kernel_rfl) (by kernel_rfl) (fun _ _ _ _ _ h => h) hS0 ?_
    clear hS0
    simp only [List.take_succ_cons, List.take_zero, List.drop_succ_cons, List.drop_zero]
    refine relSeq_on rfl (fun K hK w1 hS1 hD1 => ?_)
    obtain ⟨i0, i1, i2⟩ := HSx.out w1 hS1
    go_simp
    refine ⟨⟨trivial, hS1, Below.refl _ _⟩, hK _ ?_⟩
    clear hK hD1 i0 i1 i2 hS1 K w1
    refine relSeq_on rfl (fun K hK w1 hS1 hD1 => ?_)
    obtain ⟨i0, i1, i2⟩ := HSx.out w1 hS1
    go_simp
    refine ⟨⟨trivial, hS1, Below.refl _ _⟩, hK _ ?_⟩
    clear hK hD1 i0 i1 i2 hS1 K w1
    refine relSeq_on rfl (fun K hK w1 hS1 hD1 => ?_)
    go_simp
    refine ⟨(C1.out w1).mono fun e w2 he => ⟨_, he.1, rfl, HSn.out _ _ hS1 he.2, he.2⟩, fun v hv => ?_⟩
    obtain ⟨_, _, hv⟩ := hv.out
    obtain rfl : v = strV l1 := hv
    refine hK _ ?_
    clear hK hD1 hS1 K w1 hv
    refine relSeq_on rfl (fun K hK w1 hS1 hD1 => ?_)
    obtain ⟨i0, i1, i2⟩ := HSx.out w1 hS1
    go_simp
    refine ⟨⟨trivial, hS1, Below.refl _ _⟩, hK _ ?_⟩
    clear hK hD1 i0 i1 i2 hS1 K w1
    refine relSeq_on rfl (fun K hK w1 hS1 hD1 => ?_)
    obtain ⟨i0, i1, i2⟩ := HSx.out w1 hS1
    go_simp
    refine ⟨⟨trivial, hS1, Below.refl _ _⟩, hK _ ?_⟩
    clear hK hD1 i0 i1 i2 hS1 K w1
    refine relSeq_on rfl (fun K hK w1 hS1 hD1 => ?_)
    obtain ⟨i0, i1, i2⟩ := HSx.out w1 hS1
    go_simp
    refine ⟨⟨trivial, hS1, Below.refl _ _⟩, hK _ ?_⟩
    clear hK hD1 i0 i1 i2 hS1 K w1
    refine relSeq_on rfl (fun K hK w1 hS1 hD1 => ?_)
    obtain ⟨i0, i1, i2⟩ := HSx.out w1 hS1
    go_simp
    refine ⟨⟨trivial, hS1, Below.refl _ _⟩, hK _ ?_⟩
    clear hK hD1 i0 i1 i2 hS1 K w1
    refine relSeq_on rfl (fun K hK w1 hS1 hD1 => ?_)
    obtain ⟨i0, i1, i2⟩ := HSx.out w1 hS1
    go_simp
    refine ⟨⟨trivial, hS1, Below.refl _ _⟩, hK _ ?_⟩
    clear hK hD1 i0 i1 i2 hS1 K w1
    refine relSeq_on rfl (fun K hK w1 hS1 hD1 => ?_)
    obtain ⟨i0, i1, i2⟩ := HSx.out w1 hS1
    go_simp
    refine ⟨⟨trivial, hS1, Below.refl _ _⟩, hK _ ?_⟩
    clear hK hD1 i0 i1 i2 hS1 K w1
    refine relSeq_on rfl (fun K hK w1 hS1 hD1 => ?_)
    go_simp
    refine ⟨(C3.out w1).mono fun e w2 he => ⟨_, he.1, rfl, HSn.out _ _ hS1 he.2, he.2⟩, fun v hv => ?_⟩
    obtain ⟨_, _, hv⟩ := hv.out
    obtain rfl : v = strV l3 := hv
    refine hK _ ?_
    clear hK hD1 hS1 K w1 hv
    refine relSeq_on rfl (fun K hK w1 hS1 hD1 => ?_)
    obtain ⟨i0, i1, i2⟩ := HSx.out w1 hS1
    go_simp
    refine ⟨⟨trivial, hS1, Below.refl _ _⟩, hK _ ?_⟩
    clear hK hD1 i0 i1 i2 hS1 K w1
    refine relSeq_nil ?_
    intro listed w9 hS2 hF2 hl2
    have HB := Lib.hid (HW.out.trans ((HSd.out w9 hS2).mono HW.out.size))
    clear hF2 hl2 hS2 HSd HSx HSn
    go_wp2
    go_ret
    rw [HE.out]
    refine ⟨?_, HB.out⟩
    first | (simp; done) | (simp [ba_app]; done)
end Go.Proofs.YtoiaecfiinkmjaaDoor
