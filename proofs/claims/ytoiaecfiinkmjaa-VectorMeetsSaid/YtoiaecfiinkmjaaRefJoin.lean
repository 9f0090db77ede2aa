/- gessoref13.Join, gessoref13.Meet: their contracts. -/
import Derived.Test.YtoiaecfiinkmjaaRefRight
import Derived.Test.YtoiaecfiinkmjaaCovers
import Derived.Test.YtoiaecfiinkmjaaFills
import Derived.Deep.DeepCutAuto
namespace Go.Proofs.Ytoiaecfiinkmjaa
open Go.RowKit Go.Shelf

theorem okVecs_snoc (f : Nat → Int) (L : List (Nat → Int)) (l : Nat → Int) : okVecs f (L ++ [l]) = (okVecs f L && okVec l) := by simp [okVecs, Bool.and_assoc]

set_option maxRecDepth 100000 in
set_option maxHeartbeats 2000000 in
theorem RJoin_any (f : Nat → Int) (a : Option Addr) (n cap : Nat) (L : List (Nat → Int)) (w : World) (hS : VSl w a n L) :
    Calls Try.prog 19 #[vec f, .slice a n cap] w (Ret (.tuple #[vec fun k => L.foldl (fun x l => max x (l k)) (f k), .bool (okVecs f L)]) w) := by
  obtain ⟨rfl, hlen, hL⟩ := hS
  have HL := Lib.hid hL
  have b0 := Lib.hid ((Blk.new w 24 (vecC f)).alloc (.cells (vecC fun _ => 0) 24))
  have b1 : Hid (Blk ((w.alloc (.cells (vecC f) 24)).alloc (.cells (vecC fun _ => 0) 24)) (w.heap.size + 1) 24 (vecC fun _ => 0)) := by
    have := Blk.new (w.alloc (.cells (vecC f) 24)) 24 (vecC fun _ => 0)
    rwa [World.size_alloc] at this
  have HW : Hid (Below w.heap.size w ((w.alloc (.cells (vecC f) 24)).alloc (.cells (vecC fun _ => 0) 24))) := by show Below _ _ _; go_grown
  clear hL
  go_enter Try.func19, Try.ntmps19
  unfold vec
  go_wp2_with fail
  refine (Right_any f _).mono ?_
  rintro e X ⟨rfl, hb⟩
  have X0 := Lib.hid (b0.out.below hb b0.out.lt)
  have X1 := Lib.hid (b1.out.below hb b1.out.lt)
  have HB := Lib.hid (HW.out.trans (hb.mono HW.out.size))
  clear hb b0 b1 HW
  go_wp2_with fail
  go_loopw [6, 15] (fun s6 i wr => ∃ k : Nat, k ≤ L.length ∧ i = .int .i64 k ∧ s6 = .bool (okVecs f (L.take k)) ∧ Blk wr w.heap.size 24 (vecC fun j => (L.take k).foldl (fun x l => max x (l j)) (f j)) ∧ Blk wr (w.heap.size + 1) 24 (vecC fun _ => 0) ∧ Below w.heap.size w wr) (fun _ i _ => L.length - (intOf i).toNat)
  case atStart => exact ⟨0, Nat.zero_le _, rfl, by simp [okVecs], by simpa using X0.out, X1.out, HB.out⟩
  case round =>
    obtain ⟨k, hk, rfl, rfl, c0, c1, hBr⟩ := hrel
    by_cases hlt : k < L.length
    · obtain ⟨b, off, rfl, hb, hv⟩ := HL.out.resolve_left (fun e => by rw [e] at hlt; simp at hlt)
      have hc : ∀ j, j < 9 → wr.cell? ⟨b, off + k * 9 + j, none⟩ = some (.int .u64 (L[k] j)) := fun j hj => by
        rw [hBr.cell (p := ⟨b, off + k * 9 + j, none⟩) hb]
        exact hv k L[k] (by simp [hlt]) j hj
      have hg : ∀ j, (L.take (k + 1)).foldl (fun x l => max x (l j)) (f j) = max ((L.take k).foldl (fun x l => max x (l j)) (f j)) (L[k] j) := fun j => by
        rw [List.take_succ_eq_append_getElem hlt, List.foldl_append]; rfl
      have hok : okVecs f (L.take (k + 1)) = (okVecs f (L.take k) && okVec L[k]) := by rw [List.take_succ_eq_append_getElem hlt]; exact okVecs_snoc _ _ _
      have HC := Lib.hid hc
      have HG := Lib.hid hg
      clear hc hg hv
      generalize L[k] = l at HC HG hok
      have C0 := Lib.hid c0
      have C1 := Lib.hid c1
      have HBr := Lib.hid hBr
      clear c0 c1 hBr
      cases hx : okVecs f (L.take k) with
      | false =>
        rw [hx, Bool.false_and] at hok
        have HOK := Lib.hid hok
        clear hok hx
        go_upto_region 6 with (first | (refine L_vload_at 18 (.tmp 17) l rfl HC.out ?_; unfold vec) | (refine L_vstore_new (.tmp 8) (.tmp 18) l rfl rfl ?_; unfold vecC))
        have HP : Hid (Blk (wr.alloc (.cells (vecC l) 24)) wr.heap.size 24 (vecC l)) := Blk.new _ _ _
        have D0 := Lib.hid (C0.out.alloc (.cells (vecC l) 24))
        have D1 := Lib.hid (C1.out.alloc (.cells (vecC l) 24))
        have HX := Lib.hid (HBr.out.alloc HBr.out.size (.cells (vecC l) 24))
        clear C0 C1 HBr HC
        unfold vecC at HP D0 D1 HX
        generalize wr.alloc _ = wx at HP D0 D1 HX ⊢
        generalize wr.heap.size = p8 at HP ⊢
        have P8 := Lib.hid (HP.out)
        obtain ⟨n0, n1, n2, n3, n4, n5, n6, n7, n8⟩ := P8.out.c9
        go_wp2_with fail
        clear n0 n1 n2 n3 n4 n5 n6 n7 n8 HP P8
        go_loopw [25] (fun i wz => ∃ m : Nat, m ≤ 9 ∧ i = .int .i64 m ∧ Blk wz w.heap.size 24 (vecC fun j => if j < m then (L.take (k + 1)).foldl (fun x l => max x (l j)) (f j) else (L.take k).foldl (fun x l => max x (l j)) (f j)) ∧ Blk wz (w.heap.size + 1) 24 (vecC fun _ => 0) ∧ Below w.heap.size w wz) (fun i _ => 9 - (intOf i).toNat)
        case atStart => exact ⟨0, by omega, rfl, by simpa [vecC] using D0.out, D1.out, HX.out⟩
        case round =>
          obtain ⟨m, hm, rfl, e0, e1, hBz⟩ := hrel
          by_cases hm9 : m < 9
          · have hv := (e0.cell m).trans (vecC_get _ hm9)
            have hvf := e0.frozen m
            simp only [Nat.lt_irrefl, if_false] at hv
            have hix := fun w => index_vec l hm9 w
            unfold vec at hix
            have hm0 : (0 : Int) ≤ (m : Int) := by omega
            have hm8 : (m : Int) < 9 := by omega
            have E0 := Lib.hid e0
            have E1 := Lib.hid e1
            have HBz := Lib.hid hBz
            clear e0 e1 hBz
            generalize hA : (L.take k).foldl (fun x l => max x (l m)) (f m) = A at hv
            have HAm := Lib.hid hA
            clear hA
            generalize hl : l m = Bm at hix
            have HLm := Lib.hid hl
            clear hl
            by_cases h1 : A < Bm
            · go_wp2
              go_roundw
              case rel =>
                refine ⟨m + 1, by omega, by go_num, ?_, E1.out.set_other (by simp) _, HBz.out.setCell (p := ⟨w.heap.size, m, none⟩) (Nat.le_refl _) _⟩
                have := E0.out.set m (.int .u64 Bm)
                rw [vecC_set _ hm9] at this
                refine cast (congrArg (Blk _ _ _) (vecC_ext fun j hj => ?_)) this
                show (if j = m then _ else _) = _
                by_cases hjm : j = m
                · subst hjm
                  rw [if_pos rfl, if_pos (by omega), HG.out, HAm.out, HLm.out]
                  omega
                · rw [if_neg hjm]
                  by_cases h2 : j < m
                  · rw [if_pos h2, if_pos (by omega)]
                  · rw [if_neg h2, if_neg (by omega)]
              case measure => simp [intOf]; omega
            · go_wp2
              go_roundw
              case rel =>
                refine ⟨m + 1, by omega, by go_num, ?_, E1.out, HBz.out⟩
                refine cast (congrArg (Blk _ _ _) (vecC_ext fun j hj => ?_)) E0.out
                by_cases hjm : j = m
                · subst hjm
                  rw [if_neg (by omega), if_pos (by omega), HG.out, HAm.out, HLm.out]
                  omega
                · by_cases h2 : j < m
                  · rw [if_pos h2, if_pos (by omega)]
                  · rw [if_neg h2, if_neg (by omega)]
              case measure => simp [intOf]; omega
          · have E0 := Lib.hid e0
            have E1 := Lib.hid e1
            have HBz := Lib.hid hBz
            clear e0 e1 hBz
            go_wp2
            go_roundw
            case rel =>
              refine ⟨k + 1, by omega, by go_num, by rw [HOK.out], ?_, E1.out, HBz.out⟩
              refine cast (congrArg (Blk _ _ _) (vecC_ext fun j hj => ?_)) E0.out
              rw [if_pos (by omega)]
            case measure => simp [intOf]; omega
      | true =>
        rw [hx, Bool.true_and] at hok
        have HOK := Lib.hid hok
        clear hok hx
        go_upto_region 5 with (first | (refine L_vload_at 18 (.tmp 17) l rfl HC.out ?_; unfold vec) | (refine L_vstore_new (.tmp 8) (.tmp 18) l rfl rfl ?_; unfold vecC))
        have HP : Hid (Blk (wr.alloc (.cells (vecC l) 24)) wr.heap.size 24 (vecC l)) := Blk.new _ _ _
        have D0 := Lib.hid (C0.out.alloc (.cells (vecC l) 24))
        have D1 := Lib.hid (C1.out.alloc (.cells (vecC l) 24))
        have HX := Lib.hid (HBr.out.alloc HBr.out.size (.cells (vecC l) 24))
        clear C0 C1 HBr HC
        unfold vecC at HP D0 D1 HX
        generalize wr.alloc _ = wx at HP D0 D1 HX ⊢
        generalize wr.heap.size = p8 at HP ⊢
        obtain ⟨n0, n1, n2, n3, n4, n5, n6, n7, n8⟩ := HP.out.c9
        go_wp2_with fail
        refine (Right_any l _).mono ?_
        rintro e Y ⟨rfl, hb⟩
        replace D0 := Lib.hid (D0.out.below hb D0.out.lt)
        replace D1 := Lib.hid (D1.out.below hb D1.out.lt)
        replace HP := Lib.hid (HP.out.below hb HP.out.lt)
        replace HX := Lib.hid (HX.out.trans (hb.mono HX.out.size))
        clear hb n0 n1 n2 n3 n4 n5 n6 n7 n8
        go_upto_region 6 with fail
        have P8 := Lib.hid (HP.out)
        obtain ⟨n0, n1, n2, n3, n4, n5, n6, n7, n8⟩ := P8.out.c9
        go_wp2_with fail
        clear n0 n1 n2 n3 n4 n5 n6 n7 n8 HP P8
        go_loopw [25] (fun i wz => ∃ m : Nat, m ≤ 9 ∧ i = .int .i64 m ∧ Blk wz w.heap.size 24 (vecC fun j => if j < m then (L.take (k + 1)).foldl (fun x l => max x (l j)) (f j) else (L.take k).foldl (fun x l => max x (l j)) (f j)) ∧ Blk wz (w.heap.size + 1) 24 (vecC fun _ => 0) ∧ Below w.heap.size w wz) (fun i _ => 9 - (intOf i).toNat)
        case atStart => exact ⟨0, by omega, rfl, by simpa [vecC] using D0.out, D1.out, HX.out⟩
        case round =>
          obtain ⟨m, hm, rfl, e0, e1, hBz⟩ := hrel
          by_cases hm9 : m < 9
          · have hv := (e0.cell m).trans (vecC_get _ hm9)
            have hvf := e0.frozen m
            simp only [Nat.lt_irrefl, if_false] at hv
            have hix := fun w => index_vec l hm9 w
            unfold vec at hix
            have hm0 : (0 : Int) ≤ (m : Int) := by omega
            have hm8 : (m : Int) < 9 := by omega
            have E0 := Lib.hid e0
            have E1 := Lib.hid e1
            have HBz := Lib.hid hBz
            clear e0 e1 hBz
            generalize hA : (L.take k).foldl (fun x l => max x (l m)) (f m) = A at hv
            have HAm := Lib.hid hA
            clear hA
            generalize hl : l m = Bm at hix
            have HLm := Lib.hid hl
            clear hl
            by_cases h1 : A < Bm
            · go_wp2
              go_roundw
              case rel =>
                refine ⟨m + 1, by omega, by go_num, ?_, E1.out.set_other (by simp) _, HBz.out.setCell (p := ⟨w.heap.size, m, none⟩) (Nat.le_refl _) _⟩
                have := E0.out.set m (.int .u64 Bm)
                rw [vecC_set _ hm9] at this
                refine cast (congrArg (Blk _ _ _) (vecC_ext fun j hj => ?_)) this
                show (if j = m then _ else _) = _
                by_cases hjm : j = m
                · subst hjm
                  rw [if_pos rfl, if_pos (by omega), HG.out, HAm.out, HLm.out]
                  omega
                · rw [if_neg hjm]
                  by_cases h2 : j < m
                  · rw [if_pos h2, if_pos (by omega)]
                  · rw [if_neg h2, if_neg (by omega)]
              case measure => simp [intOf]; omega
            · go_wp2
              go_roundw
              case rel =>
                refine ⟨m + 1, by omega, by go_num, ?_, E1.out, HBz.out⟩
                refine cast (congrArg (Blk _ _ _) (vecC_ext fun j hj => ?_)) E0.out
                by_cases hjm : j = m
                · subst hjm
                  rw [if_neg (by omega), if_pos (by omega), HG.out, HAm.out, HLm.out]
                  omega
                · by_cases h2 : j < m
                  · rw [if_pos h2, if_pos (by omega)]
                  · rw [if_neg h2, if_neg (by omega)]
              case measure => simp [intOf]; omega
          · have E0 := Lib.hid e0
            have E1 := Lib.hid e1
            have HBz := Lib.hid hBz
            clear e0 e1 hBz
            go_wp2
            go_roundw
            case rel =>
              refine ⟨k + 1, by omega, by go_num, by rw [HOK.out], ?_, E1.out, HBz.out⟩
              refine cast (congrArg (Blk _ _ _) (vecC_ext fun j hj => ?_)) E0.out
              rw [if_pos (by omega)]
            case measure => simp [intOf]; omega
    · have hkl : L.take k = L := List.take_of_length_le (by omega)
      rw [hkl] at c0 ⊢
      have C0 := Lib.hid c0
      have C1 := Lib.hid c1
      have HBr := Lib.hid hBr
      clear c0 c1 hBr hkl
      generalize hr : (fun j => L.foldl (fun x l => max x (l j)) (f j)) = r at C0
      have HR := Lib.hid hr
      clear hr
      go_wp2_with (first | (refine L_vload 39 (.tmp 2) rfl C0.out ?_) | (refine L_vstore (.tmp 4) (.tmp 39) r rfl rfl C1.out ?_))
      refine bodyPost_ret (v := .tuple #[vec r, .bool (okVecs f L)]) (results_ct rfl _ _ rfl (C1.out.row (vecC r)).vload rfl) rfl ?_
      rw [← HR.out]
      exact ⟨rfl, below_setRow HBr.out (by omega) _⟩
set_option maxRecDepth 100000 in
set_option maxHeartbeats 2000000 in
theorem RMeet_any (f : Nat → Int) (a : Option Addr) (n cap : Nat) (L : List (Nat → Int)) (w : World) (hS : VSl w a n L) :
    Calls Try.prog 20 #[vec f, .slice a n cap] w (Ret (.tuple #[vec fun k => L.foldl (fun x l => min x (l k)) (f k), .bool (okVecs f L)]) w) := by
  obtain ⟨rfl, hlen, hL⟩ := hS
  have HL := Lib.hid hL
  have b0 := Lib.hid ((Blk.new w 24 (vecC f)).alloc (.cells (vecC fun _ => 0) 24))
  have b1 : Hid (Blk ((w.alloc (.cells (vecC f) 24)).alloc (.cells (vecC fun _ => 0) 24)) (w.heap.size + 1) 24 (vecC fun _ => 0)) := by
    have := Blk.new (w.alloc (.cells (vecC f) 24)) 24 (vecC fun _ => 0)
    rwa [World.size_alloc] at this
  have HW : Hid (Below w.heap.size w ((w.alloc (.cells (vecC f) 24)).alloc (.cells (vecC fun _ => 0) 24))) := by show Below _ _ _; go_grown
  clear hL
  go_enter Try.func20, Try.ntmps20
  unfold vec
  go_wp2_with fail
  refine (Right_any f _).mono ?_
  rintro e X ⟨rfl, hb⟩
  have X0 := Lib.hid (b0.out.below hb b0.out.lt)
  have X1 := Lib.hid (b1.out.below hb b1.out.lt)
  have HB := Lib.hid (HW.out.trans (hb.mono HW.out.size))
  clear hb b0 b1 HW
  go_wp2_with fail
  go_loopw [6, 15] (fun s6 i wr => ∃ k : Nat, k ≤ L.length ∧ i = .int .i64 k ∧ s6 = .bool (okVecs f (L.take k)) ∧ Blk wr w.heap.size 24 (vecC fun j => (L.take k).foldl (fun x l => min x (l j)) (f j)) ∧ Blk wr (w.heap.size + 1) 24 (vecC fun _ => 0) ∧ Below w.heap.size w wr) (fun _ i _ => L.length - (intOf i).toNat)
  case atStart => exact ⟨0, Nat.zero_le _, rfl, by simp [okVecs], by simpa using X0.out, X1.out, HB.out⟩
  case round =>
    obtain ⟨k, hk, rfl, rfl, c0, c1, hBr⟩ := hrel
    by_cases hlt : k < L.length
    · obtain ⟨b, off, rfl, hb, hv⟩ := HL.out.resolve_left (fun e => by rw [e] at hlt; simp at hlt)
      have hc : ∀ j, j < 9 → wr.cell? ⟨b, off + k * 9 + j, none⟩ = some (.int .u64 (L[k] j)) := fun j hj => by
        rw [hBr.cell (p := ⟨b, off + k * 9 + j, none⟩) hb]
        exact hv k L[k] (by simp [hlt]) j hj
      have hg : ∀ j, (L.take (k + 1)).foldl (fun x l => min x (l j)) (f j) = min ((L.take k).foldl (fun x l => min x (l j)) (f j)) (L[k] j) := fun j => by
        rw [List.take_succ_eq_append_getElem hlt, List.foldl_append]; rfl
      have hok : okVecs f (L.take (k + 1)) = (okVecs f (L.take k) && okVec L[k]) := by rw [List.take_succ_eq_append_getElem hlt]; exact okVecs_snoc _ _ _
      have HC := Lib.hid hc
      have HG := Lib.hid hg
      clear hc hg hv
      generalize L[k] = l at HC HG hok
      have C0 := Lib.hid c0
      have C1 := Lib.hid c1
      have HBr := Lib.hid hBr
      clear c0 c1 hBr
      cases hx : okVecs f (L.take k) with
      | false =>
        rw [hx, Bool.false_and] at hok
        have HOK := Lib.hid hok
        clear hok hx
        go_upto_region 6 with (first | (refine L_vload_at 18 (.tmp 17) l rfl HC.out ?_; unfold vec) | (refine L_vstore_new (.tmp 8) (.tmp 18) l rfl rfl ?_; unfold vecC))
        have HP : Hid (Blk (wr.alloc (.cells (vecC l) 24)) wr.heap.size 24 (vecC l)) := Blk.new _ _ _
        have D0 := Lib.hid (C0.out.alloc (.cells (vecC l) 24))
        have D1 := Lib.hid (C1.out.alloc (.cells (vecC l) 24))
        have HX := Lib.hid (HBr.out.alloc HBr.out.size (.cells (vecC l) 24))
        clear C0 C1 HBr HC
        unfold vecC at HP D0 D1 HX
        generalize wr.alloc _ = wx at HP D0 D1 HX ⊢
        generalize wr.heap.size = p8 at HP ⊢
        have P8 := Lib.hid (HP.out)
        obtain ⟨n0, n1, n2, n3, n4, n5, n6, n7, n8⟩ := P8.out.c9
        go_wp2_with fail
        clear n0 n1 n2 n3 n4 n5 n6 n7 n8 HP P8
        go_loopw [25] (fun i wz => ∃ m : Nat, m ≤ 9 ∧ i = .int .i64 m ∧ Blk wz w.heap.size 24 (vecC fun j => if j < m then (L.take (k + 1)).foldl (fun x l => min x (l j)) (f j) else (L.take k).foldl (fun x l => min x (l j)) (f j)) ∧ Blk wz (w.heap.size + 1) 24 (vecC fun _ => 0) ∧ Below w.heap.size w wz) (fun i _ => 9 - (intOf i).toNat)
        case atStart => exact ⟨0, by omega, rfl, by simpa [vecC] using D0.out, D1.out, HX.out⟩
        case round =>
          obtain ⟨m, hm, rfl, e0, e1, hBz⟩ := hrel
          by_cases hm9 : m < 9
          · have hv := (e0.cell m).trans (vecC_get _ hm9)
            have hvf := e0.frozen m
            simp only [Nat.lt_irrefl, if_false] at hv
            have hix := fun w => index_vec l hm9 w
            unfold vec at hix
            have hm0 : (0 : Int) ≤ (m : Int) := by omega
            have hm8 : (m : Int) < 9 := by omega
            have E0 := Lib.hid e0
            have E1 := Lib.hid e1
            have HBz := Lib.hid hBz
            clear e0 e1 hBz
            generalize hA : (L.take k).foldl (fun x l => min x (l m)) (f m) = A at hv
            have HAm := Lib.hid hA
            clear hA
            generalize hl : l m = Bm at hix
            have HLm := Lib.hid hl
            clear hl
            by_cases h1 : Bm < A
            · go_wp2
              go_roundw
              case rel =>
                refine ⟨m + 1, by omega, by go_num, ?_, E1.out.set_other (by simp) _, HBz.out.setCell (p := ⟨w.heap.size, m, none⟩) (Nat.le_refl _) _⟩
                have := E0.out.set m (.int .u64 Bm)
                rw [vecC_set _ hm9] at this
                refine cast (congrArg (Blk _ _ _) (vecC_ext fun j hj => ?_)) this
                show (if j = m then _ else _) = _
                by_cases hjm : j = m
                · subst hjm
                  rw [if_pos rfl, if_pos (by omega), HG.out, HAm.out, HLm.out]
                  omega
                · rw [if_neg hjm]
                  by_cases h2 : j < m
                  · rw [if_pos h2, if_pos (by omega)]
                  · rw [if_neg h2, if_neg (by omega)]
              case measure => simp [intOf]; omega
            · go_wp2
              go_roundw
              case rel =>
                refine ⟨m + 1, by omega, by go_num, ?_, E1.out, HBz.out⟩
                refine cast (congrArg (Blk _ _ _) (vecC_ext fun j hj => ?_)) E0.out
                by_cases hjm : j = m
                · subst hjm
                  rw [if_neg (by omega), if_pos (by omega), HG.out, HAm.out, HLm.out]
                  omega
                · by_cases h2 : j < m
                  · rw [if_pos h2, if_pos (by omega)]
                  · rw [if_neg h2, if_neg (by omega)]
              case measure => simp [intOf]; omega
          · have E0 := Lib.hid e0
            have E1 := Lib.hid e1
            have HBz := Lib.hid hBz
            clear e0 e1 hBz
            go_wp2
            go_roundw
            case rel =>
              refine ⟨k + 1, by omega, by go_num, by rw [HOK.out], ?_, E1.out, HBz.out⟩
              refine cast (congrArg (Blk _ _ _) (vecC_ext fun j hj => ?_)) E0.out
              rw [if_pos (by omega)]
            case measure => simp [intOf]; omega
      | true =>
        rw [hx, Bool.true_and] at hok
        have HOK := Lib.hid hok
        clear hok hx
        go_upto_region 5 with (first | (refine L_vload_at 18 (.tmp 17) l rfl HC.out ?_; unfold vec) | (refine L_vstore_new (.tmp 8) (.tmp 18) l rfl rfl ?_; unfold vecC))
        have HP : Hid (Blk (wr.alloc (.cells (vecC l) 24)) wr.heap.size 24 (vecC l)) := Blk.new _ _ _
        have D0 := Lib.hid (C0.out.alloc (.cells (vecC l) 24))
        have D1 := Lib.hid (C1.out.alloc (.cells (vecC l) 24))
        have HX := Lib.hid (HBr.out.alloc HBr.out.size (.cells (vecC l) 24))
        clear C0 C1 HBr HC
        unfold vecC at HP D0 D1 HX
        generalize wr.alloc _ = wx at HP D0 D1 HX ⊢
        generalize wr.heap.size = p8 at HP ⊢
        obtain ⟨n0, n1, n2, n3, n4, n5, n6, n7, n8⟩ := HP.out.c9
        go_wp2_with fail
        refine (Right_any l _).mono ?_
        rintro e Y ⟨rfl, hb⟩
        replace D0 := Lib.hid (D0.out.below hb D0.out.lt)
        replace D1 := Lib.hid (D1.out.below hb D1.out.lt)
        replace HP := Lib.hid (HP.out.below hb HP.out.lt)
        replace HX := Lib.hid (HX.out.trans (hb.mono HX.out.size))
        clear hb n0 n1 n2 n3 n4 n5 n6 n7 n8
        go_upto_region 6 with fail
        have P8 := Lib.hid (HP.out)
        obtain ⟨n0, n1, n2, n3, n4, n5, n6, n7, n8⟩ := P8.out.c9
        go_wp2_with fail
        clear n0 n1 n2 n3 n4 n5 n6 n7 n8 HP P8
        go_loopw [25] (fun i wz => ∃ m : Nat, m ≤ 9 ∧ i = .int .i64 m ∧ Blk wz w.heap.size 24 (vecC fun j => if j < m then (L.take (k + 1)).foldl (fun x l => min x (l j)) (f j) else (L.take k).foldl (fun x l => min x (l j)) (f j)) ∧ Blk wz (w.heap.size + 1) 24 (vecC fun _ => 0) ∧ Below w.heap.size w wz) (fun i _ => 9 - (intOf i).toNat)
        case atStart => exact ⟨0, by omega, rfl, by simpa [vecC] using D0.out, D1.out, HX.out⟩
        case round =>
          obtain ⟨m, hm, rfl, e0, e1, hBz⟩ := hrel
          by_cases hm9 : m < 9
          · have hv := (e0.cell m).trans (vecC_get _ hm9)
            have hvf := e0.frozen m
            simp only [Nat.lt_irrefl, if_false] at hv
            have hix := fun w => index_vec l hm9 w
            unfold vec at hix
            have hm0 : (0 : Int) ≤ (m : Int) := by omega
            have hm8 : (m : Int) < 9 := by omega
            have E0 := Lib.hid e0
            have E1 := Lib.hid e1
            have HBz := Lib.hid hBz
            clear e0 e1 hBz
            generalize hA : (L.take k).foldl (fun x l => min x (l m)) (f m) = A at hv
            have HAm := Lib.hid hA
            clear hA
            generalize hl : l m = Bm at hix
            have HLm := Lib.hid hl
            clear hl
            by_cases h1 : Bm < A
            · go_wp2
              go_roundw
              case rel =>
                refine ⟨m + 1, by omega, by go_num, ?_, E1.out.set_other (by simp) _, HBz.out.setCell (p := ⟨w.heap.size, m, none⟩) (Nat.le_refl _) _⟩
                have := E0.out.set m (.int .u64 Bm)
                rw [vecC_set _ hm9] at this
                refine cast (congrArg (Blk _ _ _) (vecC_ext fun j hj => ?_)) this
                show (if j = m then _ else _) = _
                by_cases hjm : j = m
                · subst hjm
                  rw [if_pos rfl, if_pos (by omega), HG.out, HAm.out, HLm.out]
                  omega
                · rw [if_neg hjm]
                  by_cases h2 : j < m
                  · rw [if_pos h2, if_pos (by omega)]
                  · rw [if_neg h2, if_neg (by omega)]
              case measure => simp [intOf]; omega
            · go_wp2
              go_roundw
              case rel =>
                refine ⟨m + 1, by omega, by go_num, ?_, E1.out, HBz.out⟩
                refine cast (congrArg (Blk _ _ _) (vecC_ext fun j hj => ?_)) E0.out
                by_cases hjm : j = m
                · subst hjm
                  rw [if_neg (by omega), if_pos (by omega), HG.out, HAm.out, HLm.out]
                  omega
                · by_cases h2 : j < m
                  · rw [if_pos h2, if_pos (by omega)]
                  · rw [if_neg h2, if_neg (by omega)]
              case measure => simp [intOf]; omega
          · have E0 := Lib.hid e0
            have E1 := Lib.hid e1
            have HBz := Lib.hid hBz
            clear e0 e1 hBz
            go_wp2
            go_roundw
            case rel =>
              refine ⟨k + 1, by omega, by go_num, by rw [HOK.out], ?_, E1.out, HBz.out⟩
              refine cast (congrArg (Blk _ _ _) (vecC_ext fun j hj => ?_)) E0.out
              rw [if_pos (by omega)]
            case measure => simp [intOf]; omega
    · have hkl : L.take k = L := List.take_of_length_le (by omega)
      rw [hkl] at c0 ⊢
      have C0 := Lib.hid c0
      have C1 := Lib.hid c1
      have HBr := Lib.hid hBr
      clear c0 c1 hBr hkl
      generalize hr : (fun j => L.foldl (fun x l => min x (l j)) (f j)) = r at C0
      have HR := Lib.hid hr
      clear hr
      go_wp2_with (first | (refine L_vload 39 (.tmp 2) rfl C0.out ?_) | (refine L_vstore (.tmp 4) (.tmp 39) r rfl rfl C1.out ?_))
      refine bodyPost_ret (v := .tuple #[vec r, .bool (okVecs f L)]) (results_ct rfl _ _ rfl (C1.out.row (vecC r)).vload rfl) rfl ?_
      rw [← HR.out]
      exact ⟨rfl, below_setRow HBr.out (by omega) _⟩
end Go.Proofs.Ytoiaecfiinkmjaa
