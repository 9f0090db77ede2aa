/- ident.Text: its contract. -/
import Derived.Test.YtoiaecfiinkmjaaDoorFmt
import Derived.Test.YtoiaecfiinkmjaaDoorHeld
namespace Go.Proofs.YtoiaecfiinkmjaaDoor
open Go.RowKit Go.Shelf Go.Sort Go.Lib

theorem dec_len {u : Nat} (h : u < 18446744073709551616) : (Lib.decDigits u).length ≤ 20 := by
  rw [Lib.decDigits_length]
  by_cases h0 : u = 0
  · subst h0; rw [Lib.nDigits_small (by omega)]; omega
  · have := Lib.numDigits_eq u (by omega) h
    split at this <;> omega
theorem itoa_len {n : Int} (h0 : -9223372036854775808 ≤ n) (h1 : n ≤ 9223372036854775807) : (Lib.itoa n).length ≤ 21 := by
  unfold Lib.itoa
  split
  · have := dec_len (u := n.natAbs) (by omega)
    simp; omega
  · have := dec_len (u := n.toNat) (by omega)
    omega

theorem add_str (a b : List UInt8) (h : a.length + b.length ≤ 1000000) (w : World) : (Op.stringOp .add ⟨a.toArray⟩ ⟨b.toArray⟩).run Tryd.prog w = .ok (.string ⟨(a ++ b).toArray⟩) w :=
  run_string_add_lists w a b (by omega) (by omega)

set_option maxRecDepth 100000 in
set_option maxHeartbeats 2000000 in
theorem TextId_any (t : Nat) (s : Int) (q : Nat) (ht : t < 18446744073709551616) (hs0 : -9223372036854775808 ≤ s) (hs1 : s ≤ 9223372036854775807) (hq : q < 18446744073709551616) (w : World) (htab : Tab w) :
    Calls Tryd.prog 10 #[idV t s q] w (Ret (strV (textOf t s q)) w) := by
  have HX := Lib.hid (Blk.new w 27 #[.int .u64 t, .int .i64 s, .int .u64 q])
  have HW : Hid (Below w.heap.size w (w.alloc (.cells #[.int .u64 t, .int .i64 s, .int .u64 q] 27))) := (Below.refl _ _).alloc (Nat.le_refl _) _
  have HT : Hid (Tab (w.alloc (.cells #[.int .u64 t, .int .i64 s, .int .u64 q] 27))) := tab_below htab ((Below.refl _ _).alloc (Nat.le_refl _) _)
  have C1 := Lib.hid (fun W h => digits_any t ht W h)
  have C2 := Lib.hid (fun W h => Itoa_any s hs0 hs1 W h)
  have C3 := Lib.hid (fun W h => digits_any q hq W h)
  have HE : Hid (textOf t s q = Lib.decDigits t ++ 46 :: (Lib.itoa s ++ 46 :: Lib.decDigits q)) := rfl
  have hl1 := dec_len ht
  have hl2 := itoa_len hs0 hs1
  have hl3 := dec_len hq
  generalize textOf t s q = r at HE ⊢
  generalize Lib.decDigits t = l1 at C1 HE hl1
  generalize Lib.itoa s = l2 at C2 HE hl2
  generalize Lib.decDigits q = l3 at C3 HE hl3
  have hA1 := fun w => add_str l1 [46] (by simp; omega) w
  have hA2 := fun w => add_str (l1 ++ [46]) l2 (by simp; omega) w
  have hA3 := fun w => add_str (l1 ++ 46 :: l2) [46] (by simp; omega) w
  have hA4 := fun w => add_str (l1 ++ 46 :: (l2 ++ [46])) l3 (by simp; omega) w
  clear htab ht hs0 hs1 hq hl1 hl2 hl3
  go_enter Tryd.func10, Tryd.ntmps10
  go_wp2_with fail
  generalize w.alloc (.cells #[.int .u64 t, .int .i64 s, .int .u64 q] 27) = W at HX HW HT ⊢
  generalize w.heap.size = p1 at HX ⊢
  obtain ⟨S, hS⟩ : ∃ S : World → Prop, S = fun Y => Below W.heap.size W Y := ⟨_, rfl⟩
  have HSd : Hid (∀ Y, S Y → Below W.heap.size W Y) := by intro Y hY; rw [hS] at hY; exact hY
  have HSx : Hid (∀ Y, S Y → Y.cell? ⟨p1, 0, none⟩ = some (.int .u64 t) ∧ Y.cell? ⟨p1, 1, none⟩ = some (.int .i64 s) ∧ Y.cell? ⟨p1, 2, none⟩ = some (.int .u64 q)) := fun Y hY => by
    have h := HX.out.below (HSd.out Y hY) HX.out.lt
    exact ⟨h.cell 0, h.cell 1, h.cell 2⟩
  have HSt : Hid (∀ Y, S Y → Tab Y) := fun Y hY => tab_below HT.out (HSd.out Y hY)
  have HSn : Hid (∀ Y Y', S Y → Below Y.heap.size Y Y' → S Y') := by intro Y Y' hY hb; rw [hS] at hY ⊢; exact hY.trans (hb.mono hY.size)
  have hS0 : S W.drew := by rw [hS]; exact (Below.refl _ _).drew
  clear hS
  refine wp_region_held_rel 13 S (fun k u Y => match k with | 2 => u = strV l1 | 6 => u = strV l2 | 11 => u = strV l3 | _ => True) rfl (by kernel_rfl) (by kernel_rfl) (by kernel_rfl) (fun _ _ _ _ _ h => h) hS0 ?_
  clear hS0
  simp only [List.take_succ_cons, List.take_zero, List.drop_succ_cons, List.drop_zero]
  refine relSeq_on rfl (fun K hK w1 hS1 hD1 => ?_)
  obtain ⟨i0, i1, i2⟩ := HSx.out w1 hS1
  go_simp
  refine ⟨⟨trivial, hS1, Below.refl _ _⟩, hK _ ?_⟩
  clear hK hD1 i0 i1 i2 hS1 K w1
  refine relSeq_on rfl (fun K hK w1 hS1 hD1 => ?_)
  obtain ⟨i0, i1, i2⟩ := HSx.out w1 hS1
  go_simp
  refine ⟨⟨trivial, hS1, Below.refl _ _⟩, hK _ ?_⟩
  clear hK hD1 i0 i1 i2 hS1 K w1
  refine relSeq_on rfl (fun K hK w1 hS1 hD1 => ?_)
  go_simp
  refine ⟨(C1.out w1 (HSt.out w1 hS1)).mono fun e w2 he => ⟨_, he.1, rfl, HSn.out _ _ hS1 he.below, he.below⟩, fun v hv => ?_⟩
  obtain ⟨_, _, hv⟩ := hv.out
  obtain rfl : v = strV l1 := hv
  refine hK _ ?_
  clear hK hD1 hS1 K w1 hv
  refine relSeq_on rfl (fun K hK w1 hS1 hD1 => ?_)
  obtain ⟨i0, i1, i2⟩ := HSx.out w1 hS1
  go_simp
  refine ⟨⟨trivial, hS1, Below.refl _ _⟩, hK _ ?_⟩
  clear hK hD1 i0 i1 i2 hS1 K w1
  refine relSeq_on rfl (fun K hK w1 hS1 hD1 => ?_)
  obtain ⟨i0, i1, i2⟩ := HSx.out w1 hS1
  go_simp
  refine ⟨⟨trivial, hS1, Below.refl _ _⟩, hK _ ?_⟩
  clear hK hD1 i0 i1 i2 hS1 K w1
  refine relSeq_on rfl (fun K hK w1 hS1 hD1 => ?_)
  obtain ⟨i0, i1, i2⟩ := HSx.out w1 hS1
  go_simp
  refine ⟨⟨trivial, hS1, Below.refl _ _⟩, hK _ ?_⟩
  clear hK hD1 i0 i1 i2 hS1 K w1
  refine relSeq_on rfl (fun K hK w1 hS1 hD1 => ?_)
  go_simp
  refine ⟨(C2.out w1 (HSt.out w1 hS1)).mono fun e w2 he => ⟨_, he.1, rfl, HSn.out _ _ hS1 he.below, he.below⟩, fun v hv => ?_⟩
  obtain ⟨_, _, hv⟩ := hv.out
  obtain rfl : v = strV l2 := hv
  refine hK _ ?_
  clear hK hD1 hS1 K w1 hv
  refine relSeq_on rfl (fun K hK w1 hS1 hD1 => ?_)
  obtain ⟨i0, i1, i2⟩ := HSx.out w1 hS1
  go_simp
  refine ⟨⟨trivial, hS1, Below.refl _ _⟩, hK _ ?_⟩
  clear hK hD1 i0 i1 i2 hS1 K w1
  refine relSeq_on rfl (fun K hK w1 hS1 hD1 => ?_)
  obtain ⟨i0, i1, i2⟩ := HSx.out w1 hS1
  go_simp
  refine ⟨⟨trivial, hS1, Below.refl _ _⟩, hK _ ?_⟩
  clear hK hD1 i0 i1 i2 hS1 K w1
  refine relSeq_on rfl (fun K hK w1 hS1 hD1 => ?_)
  obtain ⟨i0, i1, i2⟩ := HSx.out w1 hS1
  go_simp
  refine ⟨⟨trivial, hS1, Below.refl _ _⟩, hK _ ?_⟩
  clear hK hD1 i0 i1 i2 hS1 K w1
  refine relSeq_on rfl (fun K hK w1 hS1 hD1 => ?_)
  obtain ⟨i0, i1, i2⟩ := HSx.out w1 hS1
  go_simp
  refine ⟨⟨trivial, hS1, Below.refl _ _⟩, hK _ ?_⟩
  clear hK hD1 i0 i1 i2 hS1 K w1
  refine relSeq_on rfl (fun K hK w1 hS1 hD1 => ?_)
  go_simp
  refine ⟨(C3.out w1 (HSt.out w1 hS1)).mono fun e w2 he => ⟨_, he.1, rfl, HSn.out _ _ hS1 he.below, he.below⟩, fun v hv => ?_⟩
  obtain ⟨_, _, hv⟩ := hv.out
  obtain rfl : v = strV l3 := hv
  refine hK _ ?_
  clear hK hD1 hS1 K w1 hv
  refine relSeq_on rfl (fun K hK w1 hS1 hD1 => ?_)
  obtain ⟨i0, i1, i2⟩ := HSx.out w1 hS1
  go_simp
  refine ⟨⟨trivial, hS1, Below.refl _ _⟩, hK _ ?_⟩
  clear hK hD1 i0 i1 i2 hS1 K w1
  refine relSeq_nil ?_
  intro listed w9 hS2 hF2 hl2
  have HB := Lib.hid (HW.out.trans ((HSd.out w9 hS2).mono HW.out.size))
  clear hF2 hl2 hS2 HSd HSx HSt HSn
  go_wp2
  go_ret
  rw [HE.out]
  exact ⟨by simp, HB.out⟩
end Go.Proofs.YtoiaecfiinkmjaaDoor
