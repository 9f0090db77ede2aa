/- gessolaw13.VectorMeets: its walk where one is no vector. -/
import Derived.Test.YtoiaecfiinkmjaaMeets
namespace Go.Proofs.Ytoiaecfiinkmjaa
open Go.RowKit Go.Shelf

set_option maxRecDepth 100000 in
set_option maxHeartbeats 2000000 in
theorem meets_bad (f : Nat → Int) (hpf : posV f) (a : Option Addr) (n c : Nat) (L l : List (Nat → Int)) (m : Nat) (jj mm : Nat → Int) (w : World) (hS : RowS encVec 9 w a n L) (hnc : n ≤ c) (hm : m = min n 6) (hl : l = L.take m) (k4 : Four f m l wZ wZ jj mm 230 false) :
    Calls Try.prog 5 #[vec f, .slice a n c] w (Ret (.bool true) w) := by
  have b0 := Lib.hid (Blk.new w 24 (vecC f))
  have HW : Hid (Below w.heap.size w (w.alloc (.cells (vecC f) 24))) := (Below.refl _ _).alloc (Nat.le_refl _) _
  have HS := Lib.hid hS
  have hmm : (min (n : Int) 6).toNat = m := by omega
  have hn0 : (0 : Int) ≤ min (n : Int) 6 := by omega
  have hnc' : min (n : Int) 6 ≤ (c : Int) := by omega
  have HMN := Lib.hid (And.intro hm hl)
  have K4 := Lib.hid k4
  have HP := Lib.hid hpf
  clear hS hm hl k4 hpf
  go_enter Try.func5, Try.ntmps5
  unfold vec
  go_wp2_with fail
  refine (wakes_any _).mono ?_
  rintro e X ⟨rfl, hb⟩
  have Z0 := Lib.hid (b0.out.below hb b0.out.lt)
  have HB := Lib.hid (HW.out.trans (hb.mono HW.out.size))
  replace HS := Lib.hid ((HS.out.below HW.out).below hb)
  clear hb b0 HW
  go_wp2_with fail
  refine (CloneVec a m c l X (by rw [HMN.out.2]; exact HS.out.take m (by have := HMN.out.1; omega)) (by rw [HMN.out.2, List.length_take]; have := HMN.out.1; omega)).mono ?_
  rintro e X1 ⟨la, lc, rfl, hr, hb⟩
  have HF : Hid (Fr X1 w w.heap.size f la m l a n L) := ⟨Z0.out.below hb Z0.out.lt, hr, HS.out.below hb, HB.out.trans (hb.mono HB.out.size)⟩
  clear hb hr Z0 HB HS
  obtain ⟨c0, c1, c2, c3, c4, c5, c6, c7, c8⟩ := HF.out.1.c9
  go_wp2_with fail
  refine (K4.out.join _ _ _ HF.out.2.1).mono ?_
  rintro e X2 ⟨rfl, hb⟩
  replace HF := Lib.hid (HF.out.below hb)
  clear hb c0 c1 c2 c3 c4 c5 c6 c7 c8
  go_upto_region 5 with (refine L_vstore_new (f := wZ) (.tmp 6) (.tmp 30) wZ rfl rfl ?_)
  have B6 : Hid (Blk (X2.alloc (.cells (vecC wZ) 24)) X2.heap.size 24 (vecC wZ)) := Blk.new _ _ _
  replace HF := Lib.hid (HF.out.alloc (.cells (vecC wZ) 24))
  generalize X2.alloc (.cells (vecC wZ) 24) = Y2 at HF  B6 ⊢
  generalize X2.heap.size = p6 at B6 ⊢
  obtain ⟨c0, c1, c2, c3, c4, c5, c6, c7, c8⟩ := HF.out.1.c9
  go_wp2_with fail
  refine (K4.out.meet _ _ _ HF.out.2.1).mono ?_
  rintro e X3 ⟨rfl, hb⟩
  replace HF := Lib.hid (HF.out.below hb)
  replace B6 := Lib.hid (B6.out.below hb B6.out.lt)
  clear hb c0 c1 c2 c3 c4 c5 c6 c7 c8
  go_upto_region 6 with (refine L_vstore_new (f := wZ) (.tmp 8) (.tmp 36) wZ rfl rfl ?_)
  have B8 : Hid (Blk (X3.alloc (.cells (vecC wZ) 24)) X3.heap.size 24 (vecC wZ)) := Blk.new _ _ _
  replace HF := Lib.hid (HF.out.alloc (.cells (vecC wZ) 24))
  replace B6 := Lib.hid (B6.out.alloc (.cells (vecC wZ) 24))
  generalize X3.alloc (.cells (vecC wZ) 24) = Y3 at HF B6 B8 ⊢
  generalize X3.heap.size = p8 at B8 ⊢
  obtain ⟨c0, c1, c2, c3, c4, c5, c6, c7, c8⟩ := HF.out.1.c9
  go_wp2_with fail
  refine (K4.out.rjoin _ _ _ HF.out.2.1).mono ?_
  rintro e X4 ⟨rfl, hb⟩
  replace HF := Lib.hid (HF.out.below hb)
  replace B6 := Lib.hid (B6.out.below hb B6.out.lt)
  replace B8 := Lib.hid (B8.out.below hb B8.out.lt)
  have HF4 := HF
  have S6 := B6
  have S8 := B8
  have HX : Hid (Below X4.heap.size X4 X4) := Below.refl _ _
  clear hb c0 c1 c2 c3 c4 c5 c6 c7 c8
  go_upto_region 7 with (refine L_vstore_new (f := wZ) (.tmp 10) (.tmp 42) jj rfl rfl ?_)
  have B10 : Hid (Blk (X4.alloc (.cells (vecC jj) 24)) X4.heap.size 24 (vecC jj)) := Blk.new _ _ _
  replace HF := Lib.hid (HF.out.alloc (.cells (vecC jj) 24))
  replace B6 := Lib.hid (B6.out.alloc (.cells (vecC jj) 24))
  replace B8 := Lib.hid (B8.out.alloc (.cells (vecC jj) 24))
  replace HX := Lib.hid (HX.out.alloc (Nat.le_refl _) (.cells (vecC jj) 24))
  generalize X4.alloc (.cells (vecC jj) 24) = Y4 at HF B6 B8 B10 HX ⊢
  generalize hp10 : X4.heap.size = p10 at B10 ⊢
  have P10 := Lib.hid hp10
  clear hp10
  obtain ⟨c0, c1, c2, c3, c4, c5, c6, c7, c8⟩ := HF.out.1.c9
  go_wp2_with fail
  refine (K4.out.rmeet _ _ _ HF.out.2.1).mono ?_
  rintro e X5 ⟨rfl, hb⟩
  replace HF := Lib.hid (HF.out.below hb)
  replace B6 := Lib.hid (B6.out.below hb B6.out.lt)
  replace B8 := Lib.hid (B8.out.below hb B8.out.lt)
  replace B10 := Lib.hid (B10.out.below hb B10.out.lt)
  replace HX := Lib.hid (HX.out.trans (hb.mono HX.out.size))
  have L10 := Lib.hid B10.out.lt
  have G45 := Lib.hid HX.out.size
  clear hb c0 c1 c2 c3 c4 c5 c6 c7 c8
  go_upto_region 10 with (refine L_vstore_new (f := wZ) (.tmp 12) (.tmp 48) mm rfl rfl ?_)
  have B12 : Hid (Blk (X5.alloc (.cells (vecC mm) 24)) X5.heap.size 24 (vecC mm)) := Blk.new _ _ _
  replace HF := Lib.hid (HF.out.alloc (.cells (vecC mm) 24))
  replace B6 := Lib.hid (B6.out.alloc (.cells (vecC mm) 24))
  replace B8 := Lib.hid (B8.out.alloc (.cells (vecC mm) 24))
  replace B10 := Lib.hid (B10.out.alloc (.cells (vecC mm) 24))
  replace HX := Lib.hid (HX.out.alloc HX.out.size (.cells (vecC mm) 24))
  generalize X5.alloc (.cells (vecC mm) 24) = Y5 at HF B6 B8 B10 B12 HX ⊢
  generalize X5.heap.size = p12 at B12 L10 G45 ⊢
  have W1 : Hid (Blk (Y5.setRow p10 (vecC wZ)) p12 24 (vecC mm)) := B12.out.row_other (by have := L10.out; omega) _
  go_upto_region 11 with (first | (refine L_vstore (f := jj) (.tmp 10) (.tmp 52) wZ rfl rfl B10.out ?_) | (refine L_vstore (f := mm) (.tmp 12) (.tmp 53) wZ rfl rfl W1.out ?_))
  have HX2 : Hid (Below X4.heap.size X4 ((Y5.setRow p10 (vecC wZ)).setRow p12 (vecC wZ))) := below_setRow (below_setRow HX.out (Nat.le_of_eq P10.out) _) (by have := L10.out; have := P10.out; omega) _
  have C10 : Hid (Blk ((Y5.setRow p10 (vecC wZ)).setRow p12 (vecC wZ)) p10 24 (vecC wZ)) := (B10.out.row (vecC wZ)).row_other (by have := L10.out; omega) _
  have C12 : Hid (Blk ((Y5.setRow p10 (vecC wZ)).setRow p12 (vecC wZ)) p12 24 (vecC wZ)) := W1.out.row (vecC wZ)
  clear B6 B8 B10 B12 W1 HX HF
  change Code.wp _ _ _ _ ((Y5.setRow p10 (vecC wZ)).setRow p12 (vecC wZ))
  generalize World.setRow _ p12 (vecC wZ) = Y6 at HX2 C10 C12 ⊢
  have HF := Lib.hid (HF4.out.below HX2.out)
  have B6 := Lib.hid (S6.out.below HX2.out S6.out.lt)
  have B8 := Lib.hid (S8.out.below HX2.out S8.out.lt)
  obtain ⟨c0, c1, c2, c3, c4, c5, c6, c7, c8⟩ := B6.out.c9v
  obtain ⟨d0, d1, d2, d3, d4, d5, d6, d7, d8⟩ := B8.out.c9v
  obtain ⟨e0, e1, e2, e3, e4, e5, e6, e7, e8⟩ := C10.out.c9v
  obtain ⟨i0, i1, i2, i3, i4, i5, i6, i7, i8⟩ := C12.out.c9v
  go_upto_region 13 with fail
  clear c0 c1 c2 c3 c4 c5 c6 c7 c8 d0 d1 d2 d3 d4 d5 d6 d7 d8 e0 e1 e2 e3 e4 e5 e6 e7 e8 i0 i1 i2 i3 i4 i5 i6 i7 i8 B6 B8 C10 C12 HF4 S6 S8 HX2 L10 G45 P10
  go_wp2_with fail
  go_loopw [74] (fun i wr => ∃ k : Nat, k ≤ l.length ∧ i = .int .i64 k ∧ Below Y6.heap.size Y6 wr) (fun i _ => l.length - (intOf i).toNat)
  case atStart => exact ⟨0, Nat.zero_le _, rfl, Below.refl _ _⟩
  case round =>
    obtain ⟨k, hk, rfl, hBr⟩ := hrel
    have HBr := Lib.hid hBr
    have HML : Hid (m = l.length) := HF.out.2.1.1
    clear hBr
    by_cases hlt : k < l.length
    · obtain ⟨b, off, rfl, hbl, hv⟩ := HF.out.2.1.2.2.resolve_left (fun e => by rw [e] at hlt; simp at hlt)
      have hc : ∀ j, j < 9 → wr.cell? ⟨b, off + k * 9 + j, none⟩ = some (.int .u64 (l[k] j)) := fun j hj => by
        rw [HBr.out.cell (p := ⟨b, off + k * 9 + j, none⟩) hbl]
        exact hv k l[k] (by simp [hlt]) j _ (encVec_at _ hj)
      have HC := Lib.hid hc
      clear hc hv
      generalize l[k] = g at HC
      have hkm : (k : Int) < (m : Int) := by have := HML.out; omega
      go_upto_region 16 with (first | (refine L_vload_at 77 (.tmp 76) g rfl HC.out ?_; unfold vec) | (refine L_vstore_new (f := wZ) (.tmp 16) (.tmp 77) g rfl rfl ?_))
      have G0 : Hid (Blk (wr.alloc (.cells (vecC g) 24)) wr.heap.size 24 (vecC g)) := Blk.new _ _ _
      have F0 : Hid (Blk (wr.alloc (.cells (vecC g) 24)) w.heap.size 24 (vecC f)) := (HF.out.1.below HBr.out HF.out.1.lt).alloc _
      replace HBr := Lib.hid (HBr.out.alloc HBr.out.size (.cells (vecC g) 24))
      clear HC
      generalize wr.alloc (.cells (vecC g) 24) = wx at G0 F0 HBr ⊢
      generalize wr.heap.size = p16 at G0 ⊢
      obtain ⟨c0, c1, c2, c3, c4, c5, c6, c7, c8⟩ := F0.out.c9
      obtain ⟨d0, d1, d2, d3, d4, d5, d6, d7, d8⟩ := G0.out.c9
      go_wp2_with fail
      refine (RLacks_any f g HP.out _).mono ?_
      rintro e V ⟨v, rfl, ho, hb⟩
      obtain ⟨ra, rc, rfl, hr⟩ := ho.rowS
      have HRS := Lib.hid hr
      replace F0 := Lib.hid (F0.out.below hb F0.out.lt)
      replace G0 := Lib.hid (G0.out.below hb G0.out.lt)
      replace HBr := Lib.hid (HBr.out.trans (hb.mono HBr.out.size))
      clear hb ho hr c0 c1 c2 c3 c4 c5 c6 c7 c8 d0 d1 d2 d3 d4 d5 d6 d7 d8
      go_wp2_with fail
      have KC : Hid (∀ W, Calls Try.prog 10 #[vec f, vec g] W (Ret (.bool (covB f g)) W)) := Covers_any f g
      have KR : Hid (∀ W, Calls Try.prog 22 #[vec f, vec g] W (Ret (.bool (covB f g)) W)) := RCovers_any f g
      have KM : Hid (∀ W, Calls Try.prog 13 #[vec f, vec g] W (Ret (.int .u64 (manyOf (lackR f g))) W)) := Many_any f g HP.out
      have KL : Hid (∀ W, Calls Try.prog 11 #[vec f, vec g] W fun e W' => ∃ v, e = .returned v ∧ StrV (lackR f g) v W' ∧ Below W.heap.size W W') := fun W => (Lacks_any f g HP.out W).mono fun e W' ⟨v, h1, h2, h3⟩ => ⟨v, h1, h2.rowS, h3⟩
      have hgood := Lib.hid (lackR_good (f := f) (g := g) HP.out)
      generalize covB f g = x at KC KR
      generalize lackR f g = S0 at KM KL HRS hgood ⊢
      have KE : Hid (∀ W a c a' c', RowS encStr 3 W a S0.length S0 → RowS encStr 3 W a' S0.length S0 → Calls Try.prog 23 #[.slice a S0.length c, .slice a' S0.length c'] W (Ret (.bool true) W)) := fun W a c a' c' h1 h2 =>
        (EqualStr a a' _ c _ c' S0 S0 W h1 h2).mono fun e W' ⟨h3, q, h4⟩ => ⟨by rw [h3, allEq_self eqStr_self], by rw [h4]; exact below_drewN _ _⟩
      have KN : Hid (∀ W a c, RowS encStr 3 W a S0.length S0 → Calls Try.prog 24 #[.slice a S0.length c] W (Ret (.int .u64 (manyOf S0)) W)) := fun W a c h => RMany_any a _ c S0 W h hgood.out
      generalize manyOf S0 = M0 at KM KN
      have hxx : (x != x) = false := by cases x <;> rfl
      have hMM : (M0 != M0) = false := by simp
      obtain ⟨S, hS⟩ : ∃ S : World → Prop, S = fun Y => Below V.heap.size V Y := ⟨_, rfl⟩
      have HSd : Hid (∀ Y, S Y → Below V.heap.size V Y) := by intro Y hY; rw [hS] at hY; exact hY
      have HSf : Hid (∀ Y, S Y → Blk Y w.heap.size 24 (vecC f)) := fun Y hY => F0.out.below (HSd.out Y hY) F0.out.lt
      have HSg : Hid (∀ Y, S Y → Blk Y p16 24 (vecC g)) := fun Y hY => G0.out.below (HSd.out Y hY) G0.out.lt
      have HSr : Hid (∀ Y, S Y → RowS encStr 3 Y ra S0.length S0) := fun Y hY => HRS.out.below (HSd.out Y hY)
      have HSn : Hid (∀ Y Y', S Y → Below Y.heap.size Y Y' → S Y') := by intro Y Y' hY hb; rw [hS] at hY ⊢; exact hY.trans (hb.mono hY.size)
      have hS0 : S V.drew := by rw [hS]; exact (Below.refl _ _).drew
      clear hS
      refine wp_region_held_rel 22 S (fun k u Y => match k with | 2 => u = .bool x | 5 => u = .bool x | 10 => StrV S0 u Y | 12 => u = .bool true | 18 => u = .int .u64 M0 | 20 => u = .int .u64 M0 | _ => True) rfl (by kernel_rfl) (by kernel_rfl) (by kernel_rfl) (by
        intro k u Y Y' hb hF
        revert hF
        split <;> intro hF
        case h_3 => exact hF.below hb
        all_goals exact hF) hS0 ?_
      clear hS0
      simp only [List.take_succ_cons, List.take_zero, List.drop_succ_cons, List.drop_zero]
      refine relSeq_on rfl (fun K hK w1 hS1 hD1 => ?_)
      obtain ⟨d0, d1, d2, d3, d4, d5, d6, d7, d8⟩ := (HSf.out w1 hS1).c9
      go_simp
      refine ⟨⟨trivial, hS1, Below.refl _ _⟩, hK _ ?_⟩
      clear hK hD1 d0 d1 d2 d3 d4 d5 d6 d7 d8 hS1 K w1
      refine relSeq_on rfl (fun K hK w1 hS1 hD1 => ?_)
      obtain ⟨d0, d1, d2, d3, d4, d5, d6, d7, d8⟩ := (HSg.out w1 hS1).c9
      go_simp
      refine ⟨⟨trivial, hS1, Below.refl _ _⟩, hK _ ?_⟩
      clear hK hD1 d0 d1 d2 d3 d4 d5 d6 d7 d8 hS1 K w1
      refine relSeq_on rfl (fun K hK w1 hS1 hD1 => ?_)
      go_simp
      refine ⟨(KC.out w1).mono fun e w2 he => ⟨_, he.1, rfl, HSn.out _ _ hS1 he.2, he.2⟩, fun v hv => ?_⟩
      obtain ⟨_, _, hv⟩ := hv.out
      obtain rfl : v = .bool x := hv
      refine hK _ ?_
      clear hK hD1 hS1 K w1 hv
      refine relSeq_on rfl (fun K hK w1 hS1 hD1 => ?_)
      obtain ⟨d0, d1, d2, d3, d4, d5, d6, d7, d8⟩ := (HSf.out w1 hS1).c9
      go_simp
      refine ⟨⟨trivial, hS1, Below.refl _ _⟩, hK _ ?_⟩
      clear hK hD1 d0 d1 d2 d3 d4 d5 d6 d7 d8 hS1 K w1
      refine relSeq_on rfl (fun K hK w1 hS1 hD1 => ?_)
      obtain ⟨d0, d1, d2, d3, d4, d5, d6, d7, d8⟩ := (HSg.out w1 hS1).c9
      go_simp
      refine ⟨⟨trivial, hS1, Below.refl _ _⟩, hK _ ?_⟩
      clear hK hD1 d0 d1 d2 d3 d4 d5 d6 d7 d8 hS1 K w1
      refine relSeq_on rfl (fun K hK w1 hS1 hD1 => ?_)
      go_simp
      refine ⟨(KR.out w1).mono fun e w2 he => ⟨_, he.1, rfl, HSn.out _ _ hS1 he.2, he.2⟩, fun v hv => ?_⟩
      obtain ⟨_, _, hv⟩ := hv.out
      obtain rfl : v = .bool x := hv
      refine hK _ ?_
      clear hK hD1 hS1 K w1 hv
      refine relSeq_on rfl (fun K hK w1 hS1 hD1 => ?_)
      go_simp
      refine ⟨⟨trivial, hS1, Below.refl _ _⟩, hK _ ?_⟩
      clear hK hD1 hS1 K w1
      refine relSeq_on rfl (fun K hK w1 hS1 hD1 => ?_)
      go_simp
      refine ⟨⟨trivial, hS1, Below.refl _ _⟩, hK _ ?_⟩
      clear hK hD1 hS1 K w1
      refine relSeq_on rfl (fun K hK w1 hS1 hD1 => ?_)
      obtain ⟨d0, d1, d2, d3, d4, d5, d6, d7, d8⟩ := (HSf.out w1 hS1).c9
      go_simp
      refine ⟨⟨trivial, hS1, Below.refl _ _⟩, hK _ ?_⟩
      clear hK hD1 d0 d1 d2 d3 d4 d5 d6 d7 d8 hS1 K w1
      refine relSeq_on rfl (fun K hK w1 hS1 hD1 => ?_)
      obtain ⟨d0, d1, d2, d3, d4, d5, d6, d7, d8⟩ := (HSg.out w1 hS1).c9
      go_simp
      refine ⟨⟨trivial, hS1, Below.refl _ _⟩, hK _ ?_⟩
      clear hK hD1 d0 d1 d2 d3 d4 d5 d6 d7 d8 hS1 K w1
      refine relSeq_on rfl (fun K hK w1 hS1 hD1 => ?_)
      go_simp
      refine ⟨(KL.out w1).mono fun e w2 ⟨v, h1, h2, h3⟩ => ⟨v, h1, h2, HSn.out _ _ hS1 h3, h3⟩, fun v hv => ?_⟩
      obtain ⟨_, _, va, vc, rfl, _⟩ := hv.out
      refine hK _ ?_
      clear hK hD1 hS1 K w1 hv
      refine relSeq_on rfl (fun K hK w1 hS1 hD1 => ?_)
      go_simp
      refine ⟨⟨trivial, hS1, Below.refl _ _⟩, hK _ ?_⟩
      clear hK hD1 hS1 K w1
      refine relSeq_on rfl (fun K hK w1 hS1 hD1 => ?_)
      go_simp
      obtain ⟨a1, c1, e1, h1⟩ := hD1 ⟨10, .data⟩ (by simp) rfl _ _ rfl rfl
      obtain rfl : a1 = va := by simp at e1; exact e1.1.symm
      clear e1
      refine ⟨(KE.out w1 _ _ _ _ h1 (HSr.out w1 hS1)).mono fun e w2 he => ⟨_, he.1, rfl, HSn.out _ _ hS1 he.2, he.2⟩, fun v hv => ?_⟩
      obtain ⟨_, _, hv⟩ := hv.out
      obtain rfl : v = .bool true := hv
      refine hK _ ?_
      clear hK hD1 hS1 K w1 hv h1
      refine relSeq_on rfl (fun K hK w1 hS1 hD1 => ?_)
      go_simp
      refine ⟨⟨trivial, hS1, Below.refl _ _⟩, hK _ ?_⟩
      clear hK hD1 hS1 K w1
      refine relSeq_on rfl (fun K hK w1 hS1 hD1 => ?_)
      go_simp
      refine ⟨⟨trivial, hS1, Below.refl _ _⟩, hK _ ?_⟩
      clear hK hD1 hS1 K w1
      refine relSeq_on rfl (fun K hK w1 hS1 hD1 => ?_)
      go_simp
      refine ⟨⟨trivial, hS1, Below.refl _ _⟩, hK _ ?_⟩
      clear hK hD1 hS1 K w1
      refine relSeq_on rfl (fun K hK w1 hS1 hD1 => ?_)
      obtain ⟨d0, d1, d2, d3, d4, d5, d6, d7, d8⟩ := (HSf.out w1 hS1).c9
      go_simp
      refine ⟨⟨trivial, hS1, Below.refl _ _⟩, hK _ ?_⟩
      clear hK hD1 d0 d1 d2 d3 d4 d5 d6 d7 d8 hS1 K w1
      refine relSeq_on rfl (fun K hK w1 hS1 hD1 => ?_)
      obtain ⟨d0, d1, d2, d3, d4, d5, d6, d7, d8⟩ := (HSg.out w1 hS1).c9
      go_simp
      refine ⟨⟨trivial, hS1, Below.refl _ _⟩, hK _ ?_⟩
      clear hK hD1 d0 d1 d2 d3 d4 d5 d6 d7 d8 hS1 K w1
      refine relSeq_on rfl (fun K hK w1 hS1 hD1 => ?_)
      go_simp
      refine ⟨(KM.out w1).mono fun e w2 he => ⟨_, he.1, rfl, HSn.out _ _ hS1 he.2, he.2⟩, fun v hv => ?_⟩
      obtain ⟨_, _, hv⟩ := hv.out
      obtain rfl : v = .int .u64 M0 := hv
      refine hK _ ?_
      clear hK hD1 hS1 K w1 hv
      refine relSeq_on rfl (fun K hK w1 hS1 hD1 => ?_)
      go_simp
      refine ⟨⟨trivial, hS1, Below.refl _ _⟩, hK _ ?_⟩
      clear hK hD1 hS1 K w1
      refine relSeq_on rfl (fun K hK w1 hS1 hD1 => ?_)
      go_simp
      refine ⟨(KN.out w1 _ _ (HSr.out w1 hS1)).mono fun e w2 he => ⟨_, he.1, rfl, HSn.out _ _ hS1 he.2, he.2⟩, fun v hv => ?_⟩
      obtain ⟨_, _, hv⟩ := hv.out
      obtain rfl : v = .int .u64 M0 := hv
      refine hK _ ?_
      clear hK hD1 hS1 K w1 hv
      refine relSeq_on rfl (fun K hK w1 hS1 hD1 => ?_)
      go_simp
      refine ⟨⟨trivial, hS1, Below.refl _ _⟩, hK _ ?_⟩
      clear hK hD1 hS1 K w1
      refine relSeq_nil ?_
      intro listed w9 hS2 hF2 hl2
      have HBW := Lib.hid (HSd.out w9 hS2)
      clear hF2 hl2 HSd HSf HSg HSr HSn hS2
      go_wp2
      go_roundw
      case rel =>

        (repeat apply Exists.intro)
        exact ⟨⟨k + 1, by omega, by go_num, HBr.out.trans (HBW.out.mono HBr.out.size)⟩, rfl⟩
      case measure => simp [intOf]; omega
    · have hkm : ¬ (k : Int) < (m : Int) := by have := HML.out; omega
      have hm0 : (0 : Int) ≤ (m : Int) := by omega
      have hmc : (m : Int) ≤ (c : Int) := by have := HMN.out.1; omega
      have HFr := Lib.hid (HF.out.below HBr.out)
      go_wp2_with fail
      refine (EqualVec la a m _ m _ l l wr HFr.out.2.1 (by have := HFr.out.2.2.1.take m (by have := HMN.out.1; omega); rwa [← HMN.out.2] at this)).mono ?_
      rintro e V ⟨rfl, q, rfl⟩
      rw [allEq_self eqVec_self]
      have HB9 := Lib.hid (HFr.out.2.2.2.trans (below_drewN wr q))
      go_wp2
      go_ret
      exact ⟨rfl, HB9.out⟩
end Go.Proofs.Ytoiaecfiinkmjaa
