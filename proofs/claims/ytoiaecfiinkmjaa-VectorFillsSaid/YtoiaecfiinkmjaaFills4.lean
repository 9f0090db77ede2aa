/- gessolaw13.VectorFills: the walk where there are at most 60 ids: up to the loops, and through them. -/
import Derived.Test.YtoiaecfiinkmjaaFills3
import Derived.Deep.DeepCutAuto
namespace Go.Proofs.Ytoiaecfiinkmjaa
open Go.RowKit Go.Shelf

set_option maxRecDepth 100000 in
set_option maxHeartbeats 4000000 in
theorem fills_small (f g : Nat → Int) (hpf : posV f) (hpg : posV g) (hf : okVec f = true) (hg : okVec g = true) (L : List Str) (hL : L = lackR f g) (z : Bool) (m : Int) (w : World) (k : Calls5 f g L z m) (hz1 : ((L.length : Int) == 0) = z) (hz2 : (m == 0) = z) (hm : ¬ 60 < m)
    (hsum : sumOf L = m) :
    Calls Try.prog 4 #[vec f, vec g] w (Ret (.bool true) w) := by
  have K := Lib.hid k
  have HR : Hid True := trivial
  have hzz : (z != z) = false := by cases z <;> rfl
  have HF := Lib.hid (And.intro (And.intro hpf hpg) (And.intro hf hg))
  have HLL := Lib.hid hL
  have HSUM := Lib.hid hsum
  clear k hpf hpg hf hg hL hsum
  have HW : Hid (Below w.heap.size w ((w.alloc (.cells (vecC f) 24)).alloc (.cells (vecC g) 24))) := by show Below _ _ _; go_grown
  have HT := Lib.hid (fun W hb => Two.of (w := w) (f := f) (g := g) (W := W) hb)
  go_enter Try.func4, Try.ntmps4
  unfold vec
  go_wp2_with fail
  refine (wakes_any _).mono ?_
  rintro e X ⟨rfl, hb⟩
  have H2 := Lib.hid (HT.out X hb)
  have HB := Lib.hid (HW.out.trans (hb.mono HW.out.size))
  clear hb HT HW
  obtain ⟨c0, c1, c2, c3, c4, c5, c6, c7, c8⟩ := H2.out.1.c9; obtain ⟨d0, d1, d2, d3, d4, d5, d6, d7, d8⟩ := H2.out.2.c9
  go_wp2_with fail
  refine (K.out.1 _).mono ?_
  rintro e X1 ⟨v, rfl, ho, hb⟩
  replace H2 := Lib.hid (H2.out.below hb)
  replace HB := Lib.hid (HB.out.trans (hb.mono HB.out.size))
  clear hb c0 c1 c2 c3 c4 c5 c6 c7 c8 d0 d1 d2 d3 d4 d5 d6 d7 d8
  obtain ⟨c0, c1, c2, c3, c4, c5, c6, c7, c8⟩ := H2.out.1.c9; obtain ⟨d0, d1, d2, d3, d4, d5, d6, d7, d8⟩ := H2.out.2.c9
  obtain ⟨sa, sc, rfl, hr⟩ := ho.rowS
  replace HR := Lib.hid hr
  clear ho hr
  go_wp2_with fail
  refine (K.out.2.1 _).mono ?_
  rintro e X ⟨rfl, hb⟩
  replace H2 := Lib.hid (H2.out.below hb)
  replace HR := Lib.hid (HR.out.below hb)
  replace HB := Lib.hid (HB.out.trans (hb.mono HB.out.size))
  clear hb c0 c1 c2 c3 c4 c5 c6 c7 c8 d0 d1 d2 d3 d4 d5 d6 d7 d8
  obtain ⟨c0, c1, c2, c3, c4, c5, c6, c7, c8⟩ := H2.out.1.c9; obtain ⟨d0, d1, d2, d3, d4, d5, d6, d7, d8⟩ := H2.out.2.c9
  go_wp2_with fail
  refine (K.out.2.2.1 _).mono ?_
  rintro e X ⟨rfl, hb⟩
  replace H2 := Lib.hid (H2.out.below hb)
  replace HR := Lib.hid (HR.out.below hb)
  replace HB := Lib.hid (HB.out.trans (hb.mono HB.out.size))
  clear hb c0 c1 c2 c3 c4 c5 c6 c7 c8 d0 d1 d2 d3 d4 d5 d6 d7 d8
  obtain ⟨c0, c1, c2, c3, c4, c5, c6, c7, c8⟩ := H2.out.1.c9; obtain ⟨d0, d1, d2, d3, d4, d5, d6, d7, d8⟩ := H2.out.2.c9
  go_wp2_with fail
  refine (K.out.2.2.2.1 _).mono ?_
  rintro e X ⟨rfl, hb⟩
  replace H2 := Lib.hid (H2.out.below hb)
  replace HR := Lib.hid (HR.out.below hb)
  replace HB := Lib.hid (HB.out.trans (hb.mono HB.out.size))
  clear hb c0 c1 c2 c3 c4 c5 c6 c7 c8 d0 d1 d2 d3 d4 d5 d6 d7 d8
  obtain ⟨c0, c1, c2, c3, c4, c5, c6, c7, c8⟩ := H2.out.1.c9; obtain ⟨d0, d1, d2, d3, d4, d5, d6, d7, d8⟩ := H2.out.2.c9
  go_wp2_with fail
  refine (K.out.2.2.2.2 _).mono ?_
  rintro e X ⟨rfl, hb⟩
  replace H2 := Lib.hid (H2.out.below hb)
  replace HR := Lib.hid (HR.out.below hb)
  replace HB := Lib.hid (HB.out.trans (hb.mono HB.out.size))
  clear hb c0 c1 c2 c3 c4 c5 c6 c7 c8 d0 d1 d2 d3 d4 d5 d6 d7 d8
  obtain ⟨c0, c1, c2, c3, c4, c5, c6, c7, c8⟩ := H2.out.1.c9; obtain ⟨d0, d1, d2, d3, d4, d5, d6, d7, d8⟩ := H2.out.2.c9
  go_wp2_with fail
  refine (K.out.2.2.2.2 _).mono ?_
  rintro e X ⟨rfl, hb⟩
  replace H2 := Lib.hid (H2.out.below hb)
  replace HR := Lib.hid (HR.out.below hb)
  replace HB := Lib.hid (HB.out.trans (hb.mono HB.out.size))
  clear hb c0 c1 c2 c3 c4 c5 c6 c7 c8 d0 d1 d2 d3 d4 d5 d6 d7 d8
  obtain ⟨c0, c1, c2, c3, c4, c5, c6, c7, c8⟩ := H2.out.1.c9; obtain ⟨d0, d1, d2, d3, d4, d5, d6, d7, d8⟩ := H2.out.2.c9
  have HS := HR.out.2.1
  have hN0 := HB.out.size
  go_wp2_with (refine L_vstore_new (f := wZ) (.tmp 6) (.tmp 65) f rfl rfl ?_; clear c0 c1 c2 c3 c4 c5 c6 c7 c8 d0 d1 d2 d3 d4 d5 d6 d7 d8)
  go_loopw [7, 68] (fun s7 i wr => ∃ k : Nat, k ≤ L.length ∧ i = .int .i64 k ∧ s7 = .int .u64 (sumOf (L.take k)) ∧ Below X.heap.size X wr ∧ Blk wr X.heap.size 24 (vecC (fillV f (L.take k)))) (fun _ i _ => L.length - (intOf i).toNat)
  case atStart => exact ⟨0, by omega, rfl, rfl, (Below.refl _ _).alloc (Nat.le_refl _) _, Blk.new _ _ _⟩
  case round =>
    obtain ⟨k, hk, rfl, rfl, hBr, hA⟩ := hrel
    by_cases hlt : k < L.length
    · obtain ⟨b, off, rfl, hbl, hc⟩ := HR.out.2.2.resolve_left (fun e => by rw [e] at hlt; simp at hlt)
      obtain ⟨x, hx⟩ : ∃ x, L[k]? = some x := ⟨_, List.getElem?_eq_getElem hlt⟩
      have hx2 := hx
      rw [HLL.out] at hx2
      obtain ⟨k0, hk1, hk9, hfg, rfl, hfk, hAo, hAp⟩ := stretch_at HF.out.1.1 HF.out.2.1 HF.out.2.2 hx2
      rw [← HLL.out] at hfk hAo hAp
      have hgood : ∀ x ∈ L, goodStr x := by rw [HLL.out]; exact lackR_good HF.out.1.1
      have hgm := okVec_le HF.out.2.2 hk9
      have hfp := HF.out.1.1 k0
      have hsn : sumOf (L.take (k + 1)) = sumOf (L.take k) + (g k0 - (f k0 + 1) + 1) := by rw [List.take_add_one, hx]; exact sumOf_snoc _ _
      have hfn : fillV f (L.take (k + 1)) = setV (fillV f (L.take k)) k0 (g k0) := by rw [List.take_add_one, hx]; exact fillV_snoc _ _ _
      have hs0 := (sum_take hgood k).1
      have hs1 := (sum_take hgood (k + 1)).2
      rw [hsn, HSUM.out] at hs1
      have hc0 : wr.cell? ⟨b, off + k * 3, none⟩ = some (.int .i64 (k0 : Int)) := (hBr.cell (p := ⟨b, off + k * 3, none⟩) hbl).trans (hc k _ hx 0 _ rfl)
      have hc1 : wr.cell? ⟨b, off + k * 3 + 1, none⟩ = some (.int .u64 (f k0 + 1)) := (hBr.cell (p := ⟨b, off + k * 3 + 1, none⟩) hbl).trans (hc k _ hx 1 _ rfl)
      have hc2 : wr.cell? ⟨b, off + k * 3 + 2, none⟩ = some (.int .u64 (g k0)) := (hBr.cell (p := ⟨b, off + k * 3 + 2, none⟩) hbl).trans (hc k _ hx 2 _ rfl)
      generalize fillV f (L.take k) = A at hA hfk hAo hAp hfn
      generalize sumOf (L.take k) = c at hs0 hs1 hsn ⊢
      have HSN := Lib.hid (And.intro hsn hfn)
      have HC := Lib.hid (And.intro hs0 hs1)
      have HA := Lib.hid (And.intro hfk (And.intro hAo hAp))
      have HK := Lib.hid (And.intro (And.intro hk1 hk9) (And.intro hfg (And.intro hgm hfp)))
      have HBr := Lib.hid hBr
      have HQ := Lib.hid hA
      clear hc hx hx2 hgood hsn hfn hs0 hs1 hfk hAo hAp hk1 hk9 hfg hgm hfp hBr hA
      go_wp2_with fail
      have P9 : Hid (Blk (wr.alloc (.cells #[.int .i64 (k0 : Int), .int .u64 (f k0 + 1), .int .u64 (g k0)] 36)) wr.heap.size 36 #[.int .i64 (k0 : Int), .int .u64 (f k0 + 1), .int .u64 (g k0)]) := Blk.new _ _ _
      have Q9 := Lib.hid (HQ.out.alloc (.cells #[.int .i64 (k0 : Int), .int .u64 (f k0 + 1), .int .u64 (g k0)] 36))
      have B9 := Lib.hid (HBr.out.alloc HBr.out.size (.cells #[.int .i64 (k0 : Int), .int .u64 (f k0 + 1), .int .u64 (g k0)] 36))
      have N9 := Lib.hid HQ.out.lt
      clear hc0 hc1 hc2 HBr HQ
      generalize wr.alloc _ = wx at P9 Q9 B9 ⊢
      generalize wr.heap.size = p9 at P9 N9 ⊢
      go_loopw [7, 10] (fun s7 s10 wz => ∃ s : Int, f k0 + 1 ≤ s ∧ s ≤ g k0 + 1 ∧ s10 = .int .u64 s ∧ s7 = .int .u64 (c + (s - (f k0 + 1))) ∧ Below X.heap.size X wz ∧ Blk wz X.heap.size 24 (vecC (setV A k0 (s - 1))) ∧ Blk wz p9 36 #[.int .i64 (k0 : Int), .int .u64 (f k0 + 1), .int .u64 (g k0)]) (fun _ s10 _ => (g k0 + 1 - intOf s10).toNat)
      case atStart =>
        refine ⟨f k0 + 1, Int.le_refl _, by have := HK.out; omega, rfl, by congr 1; omega, B9.out, ?_, P9.out⟩
        rw [show f k0 + 1 - 1 = A k0 by have := HA.out.1; omega, setV_same]
        exact Q9.out
      case round =>
        obtain ⟨s, hs0, hs1, rfl, rfl, hBz, hAz, hPz⟩ := hrel
        by_cases hle : s ≤ g k0
        · have HR2 : Hid (Round (setV A k0 (s - 1)) (setV A k0 s) g k0 s) := round_of HA.out.2.1 HA.out.2.2 HF.out.2.2 HF.out.1.2 HK.out.1.1 HK.out.1.2 (by have := HK.out.2.2.2; omega) hle
          have HW2 : Hid (setV A k0 s = setV A k0 (s + 1 - 1)) := by rw [show s + 1 - 1 = s by omega]; rfl
          have w1 : IntKind.u64.wrap (c + (s - (f k0 + 1)) + 1) = c + (s - (f k0 + 1)) + 1 := IntWalk.u64_in _ (by have := HC.out; have := HK.out; omega)
          have w2 : IntKind.u64.wrap (s + 1) = s + 1 := IntWalk.u64_in _ (by have := HK.out; unfold maxT at this; omega)
          have e0 := hPz.cell 0
          have e2 := hPz.cell 2
          simp only [List.getElem?_toArray, List.getElem?_cons_zero, List.getElem?_cons_succ] at e0 e2
          have HZ := Lib.hid (And.intro hBz (And.intro hAz hPz))
          clear hBz hAz hPz
          generalize setV A k0 (s - 1) = B1 at HR2 HZ
          generalize setV A k0 s = B2 at HR2 HW2
          go_wp2_with fail
          refine (lid_agg _ _ _).mono ?_
          rintro e Y ⟨rfl, hb⟩
          have I1 := Lib.hid (HZ.out.2.1.below hb HZ.out.2.1.lt)
          have I2 := Lib.hid ((H2.out.2.below HZ.out.1 H2.out.2.lt).below hb (by have := HZ.out.1.size; have := H2.out.2.lt; omega))
          have I3 := Lib.hid (HZ.out.2.2.below hb HZ.out.2.2.lt)
          have HX := Lib.hid (HZ.out.1.trans (hb.mono HZ.out.1.size))
          clear hb HZ e0 e2
          go_upto_region 18 with fail
          have HI : Hid (InL (Y.alloc (.cells #[.int .u64 9, .int .i64 (k0 : Int), .int .u64 s] 38)) X.heap.size (w.heap.size + 1) p9 Y.heap.size B1 g k0 s (f k0 + 1) (g k0)) := ⟨I1.out.alloc _, I2.out.alloc _, I3.out.alloc _, Blk.new _ _ _⟩
          replace HX := Lib.hid (HX.out.alloc HX.out.size (.cells #[.int .u64 9, .int .i64 (k0 : Int), .int .u64 s] 38))
          clear I1 I2 I3
          generalize Y.alloc (.cells #[.int .u64 9, .int .i64 (k0 : Int), .int .u64 s] 38) = Z at HI HX ⊢
          generalize Y.heap.size = p11 at HI ⊢
          obtain ⟨c0, c1, c2, c3, c4, c5, c6, c7, c8⟩ := HI.out.1.c9; obtain ⟨d0, d1, d2, d3, d4, d5, d6, d7, d8⟩ := HI.out.2.1.c9; have e0 := HI.out.2.2.1.cell 0; have e1 := HI.out.2.2.1.cell 1; have e2 := HI.out.2.2.1.cell 2; have i0 := HI.out.2.2.2.cell 0; have i1 := HI.out.2.2.2.cell 1; have i2 := HI.out.2.2.2.cell 2; simp only [List.getElem?_toArray, List.getElem?_cons_zero, List.getElem?_cons_succ] at e0 e1 e2 i0 i1 i2
          go_wp2_with fail
          refine (HR2.out.has _).mono ?_
          rintro e Y ⟨rfl, hb⟩
          replace HI := Lib.hid (HI.out.below hb)
          replace HX := Lib.hid (HX.out.trans (hb.mono HX.out.size))
          clear hb c0 c1 c2 c3 c4 c5 c6 c7 c8 d0 d1 d2 d3 d4 d5 d6 d7 d8 e0 e1 e2 i0 i1 i2
          obtain ⟨c0, c1, c2, c3, c4, c5, c6, c7, c8⟩ := HI.out.1.c9; obtain ⟨d0, d1, d2, d3, d4, d5, d6, d7, d8⟩ := HI.out.2.1.c9; have e0 := HI.out.2.2.1.cell 0; have e1 := HI.out.2.2.1.cell 1; have e2 := HI.out.2.2.1.cell 2; have i0 := HI.out.2.2.2.cell 0; have i1 := HI.out.2.2.2.cell 1; have i2 := HI.out.2.2.2.cell 2; simp only [List.getElem?_toArray, List.getElem?_cons_zero, List.getElem?_cons_succ] at e0 e1 e2 i0 i1 i2
          go_wp2_with fail
          refine (HR2.out.next _).mono ?_
          rintro e Y ⟨rfl, hb⟩
          replace HI := Lib.hid (HI.out.below hb)
          replace HX := Lib.hid (HX.out.trans (hb.mono HX.out.size))
          clear hb c0 c1 c2 c3 c4 c5 c6 c7 c8 d0 d1 d2 d3 d4 d5 d6 d7 d8 e0 e1 e2 i0 i1 i2
          obtain ⟨c0, c1, c2, c3, c4, c5, c6, c7, c8⟩ := HI.out.1.c9; obtain ⟨d0, d1, d2, d3, d4, d5, d6, d7, d8⟩ := HI.out.2.1.c9; have e0 := HI.out.2.2.1.cell 0; have e1 := HI.out.2.2.1.cell 1; have e2 := HI.out.2.2.1.cell 2; have i0 := HI.out.2.2.2.cell 0; have i1 := HI.out.2.2.2.cell 1; have i2 := HI.out.2.2.2.cell 2; simp only [List.getElem?_toArray, List.getElem?_cons_zero, List.getElem?_cons_succ] at e0 e1 e2 i0 i1 i2
          go_wp2_with fail
          refine (HR2.out.hasg _).mono ?_
          rintro e Y ⟨rfl, hb⟩
          replace HI := Lib.hid (HI.out.below hb)
          replace HX := Lib.hid (HX.out.trans (hb.mono HX.out.size))
          clear hb c0 c1 c2 c3 c4 c5 c6 c7 c8 d0 d1 d2 d3 d4 d5 d6 d7 d8 e0 e1 e2 i0 i1 i2
          obtain ⟨c0, c1, c2, c3, c4, c5, c6, c7, c8⟩ := HI.out.1.c9; obtain ⟨d0, d1, d2, d3, d4, d5, d6, d7, d8⟩ := HI.out.2.1.c9; have e0 := HI.out.2.2.1.cell 0; have e1 := HI.out.2.2.1.cell 1; have e2 := HI.out.2.2.1.cell 2; have i0 := HI.out.2.2.2.cell 0; have i1 := HI.out.2.2.2.cell 1; have i2 := HI.out.2.2.2.cell 2; simp only [List.getElem?_toArray, List.getElem?_cons_zero, List.getElem?_cons_succ] at e0 e1 e2 i0 i1 i2
          go_wp2_with fail
          refine (HR2.out.with_ _ _ _ (IdSl_one (Blk.new _ _ _))).mono ?_
          rintro e V ⟨rfl, hb⟩
          have hW : Below Y.heap.size Y V := Below.trans ((Below.refl _ _).alloc (Nat.le_refl _) _) (hb.mono (by simp))
          replace HI := Lib.hid (HI.out.below hW)
          replace HX := Lib.hid (HX.out.trans (hW.mono HX.out.size))
          clear hb hW c0 c1 c2 c3 c4 c5 c6 c7 c8 d0 d1 d2 d3 d4 d5 d6 d7 d8 e0 e1 e2 i0 i1 i2
          go_upto_region 21 with (refine L_vstore_new (f := wZ) (.tmp 12) (.tmp 104) B2 rfl rfl ?_)
          have HN : Hid (Blk (V.alloc (.cells (vecC B2) 24)) V.heap.size 24 (vecC B2)) := Blk.new _ _ _
          replace HI := Lib.hid (HI.out.below ((Below.refl _ _).alloc (Nat.le_refl _) (.cells (vecC B2) 24)))
          replace HX := Lib.hid (HX.out.alloc HX.out.size (.cells (vecC B2) 24))
          generalize V.alloc (.cells (vecC B2) 24) = V2 at HI HN HX ⊢
          generalize V.heap.size = p12 at HN ⊢
          obtain ⟨c0, c1, c2, c3, c4, c5, c6, c7, c8⟩ := HI.out.1.c9; obtain ⟨d0, d1, d2, d3, d4, d5, d6, d7, d8⟩ := HI.out.2.1.c9; have e0 := HI.out.2.2.1.cell 0; have e1 := HI.out.2.2.1.cell 1; have e2 := HI.out.2.2.1.cell 2; have i0 := HI.out.2.2.2.cell 0; have i1 := HI.out.2.2.2.cell 1; have i2 := HI.out.2.2.2.cell 2; simp only [List.getElem?_toArray, List.getElem?_cons_zero, List.getElem?_cons_succ] at e0 e1 e2 i0 i1 i2
          obtain ⟨n0, n1, n2, n3, n4, n5, n6, n7, n8⟩ := HN.out.c9
          go_wp2_with fail
          refine (HR2.out.hasn _).mono ?_
          rintro e Y ⟨rfl, hb⟩
          replace HI := Lib.hid (HI.out.below hb)
          replace HN := Lib.hid (HN.out.below hb HN.out.lt)
          replace HX := Lib.hid (HX.out.trans (hb.mono HX.out.size))
          clear hb n0 n1 n2 n3 n4 n5 n6 n7 n8 c0 c1 c2 c3 c4 c5 c6 c7 c8 d0 d1 d2 d3 d4 d5 d6 d7 d8 e0 e1 e2 i0 i1 i2
          obtain ⟨c0, c1, c2, c3, c4, c5, c6, c7, c8⟩ := HI.out.1.c9; obtain ⟨d0, d1, d2, d3, d4, d5, d6, d7, d8⟩ := HI.out.2.1.c9; have e0 := HI.out.2.2.1.cell 0; have e1 := HI.out.2.2.1.cell 1; have e2 := HI.out.2.2.1.cell 2; have i0 := HI.out.2.2.2.cell 0; have i1 := HI.out.2.2.2.cell 1; have i2 := HI.out.2.2.2.cell 2; simp only [List.getElem?_toArray, List.getElem?_cons_zero, List.getElem?_cons_succ] at e0 e1 e2 i0 i1 i2
          obtain ⟨n0, n1, n2, n3, n4, n5, n6, n7, n8⟩ := HN.out.c9
          go_wp2_with fail
          refine (HR2.out.cov _).mono ?_
          rintro e Y ⟨rfl, hb⟩
          replace HI := Lib.hid (HI.out.below hb)
          replace HN := Lib.hid (HN.out.below hb HN.out.lt)
          replace HX := Lib.hid (HX.out.trans (hb.mono HX.out.size))
          clear hb n0 n1 n2 n3 n4 n5 n6 n7 n8 c0 c1 c2 c3 c4 c5 c6 c7 c8 d0 d1 d2 d3 d4 d5 d6 d7 d8 e0 e1 e2 i0 i1 i2
          obtain ⟨c0, c1, c2, c3, c4, c5, c6, c7, c8⟩ := HI.out.1.c9; obtain ⟨d0, d1, d2, d3, d4, d5, d6, d7, d8⟩ := HI.out.2.1.c9; have e0 := HI.out.2.2.1.cell 0; have e1 := HI.out.2.2.1.cell 1; have e2 := HI.out.2.2.1.cell 2; have i0 := HI.out.2.2.2.cell 0; have i1 := HI.out.2.2.2.cell 1; have i2 := HI.out.2.2.2.cell 2; simp only [List.getElem?_toArray, List.getElem?_cons_zero, List.getElem?_cons_succ] at e0 e1 e2 i0 i1 i2
          obtain ⟨n0, n1, n2, n3, n4, n5, n6, n7, n8⟩ := HN.out.c9
          go_wp2_with (refine L_vstore (f := B1) (.tmp 6) (.tmp 120) B2 rfl rfl HI.out.1 ?_)
          go_roundw
          case rel =>
            refine ⟨s + 1, by omega, by omega, rfl, by congr 1; omega, below_setRow HX.out (Nat.le_refl _) _, ?_, HI.out.2.2.1.row_other (by have := N9.out; omega) _⟩
            rw [← HW2.out]
            exact HI.out.1.row (vecC B2)
          case measure => simp [intOf]; omega
        · obtain rfl : s = g k0 + 1 := by omega
          have e0 := hPz.cell 0
          have e2 := hPz.cell 2
          simp only [List.getElem?_toArray, List.getElem?_cons_zero, List.getElem?_cons_succ] at e0 e2
          have HZ := Lib.hid (And.intro hBz (And.intro hAz hPz))
          clear hBz hAz hPz
          go_wp2_with fail
          go_roundw
          case rel =>
            refine ⟨k + 1, by omega, by go_num, by rw [HSN.out.1]; congr 1; omega, HZ.out.1, ?_⟩
            rw [HSN.out.2]
            have := HZ.out.2.1
            rwa [show g k0 + 1 - 1 = g k0 by omega] at this
          case measure => simp [intOf]; omega
    · obtain rfl : k = L.length := by omega
      rw [List.take_length] at hA ⊢
      rw [HSUM.out]
      have hq : eqVec (fillV f L) (fun k => max (f k) (g k)) = true := by rw [HLL.out]; exact fill_eq HF.out.1.1 HF.out.2.1 HF.out.2.2
      have KJ : Hid (∀ a c W, VSl W a 1 [g] → Calls Try.prog 8 #[vec f, .slice a 1 c] W (Ret (.tuple #[vec fun k => max (f k) (g k), .int .i64 0]) W)) := by
        intro a c W hS; exact Join_ok f a 1 c [g] W hS (by simp [okVecs, HF.out.2.1, HF.out.2.2])
      generalize (fun k => max (f k) (g k)) = J at hq KJ
      generalize fillV f L = A at hq hA
      unfold eqVec at hq
      have HQ := Lib.hid hA
      have HX := Lib.hid hBr
      have Z0 := Lib.hid (H2.out.1.below hBr H2.out.1.lt)
      have Z1 := Lib.hid (H2.out.2.below hBr H2.out.2.lt)
      clear hA hBr
      obtain ⟨c0, c1, c2, c3, c4, c5, c6, c7, c8⟩ := Z0.out.c9
      obtain ⟨d0, d1, d2, d3, d4, d5, d6, d7, d8⟩ := Z1.out.c9
      go_wp2_with fail
      refine (KJ.out _ _ _ (VSl_one (g := g) (Blk.new _ _ _))).mono ?_
      rintro e V ⟨rfl, hb⟩
      have hW : Below wr.heap.size wr V := Below.trans ((Below.refl _ _).alloc (Nat.le_refl _) _) (hb.mono (by simp))
      replace HQ := Lib.hid (HQ.out.below hW HQ.out.lt)
      replace Z0 := Lib.hid (Z0.out.below hW Z0.out.lt)
      replace Z1 := Lib.hid (Z1.out.below hW Z1.out.lt)
      replace HX := Lib.hid (HX.out.trans (hW.mono HX.out.size))
      clear hb hW KJ c0 c1 c2 c3 c4 c5 c6 c7 c8 d0 d1 d2 d3 d4 d5 d6 d7 d8
      go_upto_region 26 with (refine L_vstore_new (f := wZ) (.tmp 14) (.tmp 129) J rfl rfl ?_)
      have HN : Hid (Blk (V.alloc (.cells (vecC J) 24)) V.heap.size 24 (vecC J)) := Blk.new _ _ _
      replace HQ := Lib.hid (HQ.out.alloc (.cells (vecC J) 24))
      replace Z0 := Lib.hid (Z0.out.alloc (.cells (vecC J) 24))
      replace Z1 := Lib.hid (Z1.out.alloc (.cells (vecC J) 24))
      replace HX := Lib.hid (HX.out.alloc HX.out.size (.cells (vecC J) 24))
      generalize V.alloc (.cells (vecC J) 24) = V2 at HN HQ Z0 Z1 HX ⊢
      generalize V.heap.size = p14 at HN ⊢
      obtain ⟨c0, c1, c2, c3, c4, c5, c6, c7, c8⟩ := Z0.out.c9
      obtain ⟨d0, d1, d2, d3, d4, d5, d6, d7, d8⟩ := Z1.out.c9
      obtain ⟨n0, n1, n2, n3, n4, n5, n6, n7, n8⟩ := HN.out.c9
      obtain ⟨m0, m1, m2, m3, m4, m5, m6, m7, m8⟩ := HQ.out.c9
      go_wp2_with fail
      refine (K.out.2.2.2.2 _).mono ?_
      rintro e V3 ⟨rfl, hb⟩
      replace HX := Lib.hid (HX.out.trans (hb.mono HX.out.size))
      clear hb c0 c1 c2 c3 c4 c5 c6 c7 c8 d0 d1 d2 d3 d4 d5 d6 d7 d8 n0 n1 n2 n3 n4 n5 n6 n7 n8 m0 m1 m2 m3 m4 m5 m6 m7 m8
      go_wp2
      go_ret
      exact ⟨rfl, HB.out.trans (HX.out.mono HB.out.size)⟩
end Go.Proofs.Ytoiaecfiinkmjaa
