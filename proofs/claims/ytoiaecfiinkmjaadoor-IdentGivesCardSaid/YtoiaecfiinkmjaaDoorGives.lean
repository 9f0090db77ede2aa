/- gessolaw11.IdentGives returns true. -/
import Derived.Test.YtoiaecfiinkmjaaDoorGivesRow
import Derived.Test.YtoiaecfiinkmjaaDoorWakes11
import Derived.Test.YtoiaecfiinkmjaaDoorText
import Derived.Deep.DeepCutAuto
namespace Go.Proofs.YtoiaecfiinkmjaaDoor
open Go.RowKit Go.Shelf Go.Maps

/-- the clocks that have been made. -/
abbrev mk0 (k : Nat) : Nat → Clk := fun j => if 1 ≤ j ∧ j < k then ⟨j, 0, 0⟩ else ⟨0, 0, 0⟩
theorem mk0_step (k : Nat) (hk : 1 ≤ k) : (fun j => if j = k then (⟨k, 0, 0⟩ : Clk) else mk0 k j) = mk0 (k + 1) := by
  funext j
  simp only [mk0]
  by_cases h : j = k
  · subst h; simp [hk]
  · simp only [h, if_false]
    by_cases h1 : 1 ≤ j ∧ j < k
    · rw [if_pos h1, if_pos (by omega)]
    · rw [if_neg h1, if_neg (by omega)]
structure Fr1 (w : World) (a : Option Addr) (n : Nat) (L : List Trn) (b3 k : Nat) (X : World) : Prop where
  row : RowS encT 3 X a n L
  hb : Below w.heap.size w X
  ck : Blk X b3 57 (clkArr (mk0 k))
  o3 : w.heap.size ≤ b3
theorem Fr1.below {w W W' : World} {a : Option Addr} {n : Nat} {L : List Trn} {b3 k : Nat} (h : Fr1 w a n L b3 k W) (hb : Below W.heap.size W W') : Fr1 w a n L b3 k W' :=
  ⟨h.row.below hb, h.hb.trans (hb.mono h.hb.size), h.ck.below hb h.ck.lt, h.o3⟩

theorem rowU_one {W : World} {b : Nat} {T : TypeId} {x : Int} (h : Blk W b T #[.int .u64 x]) : RowS encU 1 W (some ⟨b, 0, none⟩) 1 [x] :=
  ⟨rfl, by simp, .inr ⟨b, 0, rfl, h.lt, fun j z hj i v hv => by
    have hj2 : j < 1 := by have := (List.getElem?_eq_some_iff.1 hj).1; simpa using this
    have hi3 : i < 1 := by have := (List.getElem?_eq_some_iff.1 hv).1; simpa [encU] using this
    rw [h.cell]
    obtain rfl : i = 0 := by omega
    obtain rfl : j = 0 := by omega
    obtain rfl := Option.some.inj hj
    exact hv⟩⟩
set_option maxRecDepth 100000 in
set_option maxHeartbeats 4000000 in
theorem gives_any (a : Option Addr) (n c : Nat) (L : List Trn) (w : World) (hS : RowS encT 3 w a n L) (_hnc : n ≤ c) (hin : ∀ x ∈ L, x.In) (htab : Tab w) :
    Calls Tryd.prog 6 #[.slice a n c] w (Ret (.bool true) w) := by
  have HS := Lib.hid hS
  have HIN := Lib.hid hin
  have hn64 : n ≤ 9223372036854775807 := by have h1 := hS.2.1; have h2 := hS.1; omega
  have HT := Lib.hid htab
  clear hS hin htab _hnc
  go_enter Tryd.func6, Tryd.ntmps6
  go_wp2_with fail
  refine (wakes_any _ HT.out).mono ?_
  rintro e X ⟨rfl, hb⟩
  have HF : Hid (Fr1 w a n L X.heap.size 1 (X.alloc (.cells (clkArr (mk0 1)) 57))) := by
    have hb2 : Below X.heap.size X (X.alloc (.cells (clkArr (mk0 1)) 57)) := (Below.refl _ _).alloc (Nat.le_refl _) _
    exact ⟨(HS.out.below hb).below hb2, hb.trans (hb2.mono hb.size), Blk.new _ _ _, hb.size⟩
  clear hb HT
  go_wp2_with fail
  go_loopw [4] (fun i wr => ∃ k : Nat, 1 ≤ k ∧ k ≤ 9 ∧ i = .int .i64 k ∧ Hid (Fr1 w a n L X.heap.size k wr)) (fun i _ => 9 - (RowKit.intOf i).toNat)
  case atStart => exact ⟨1, by omega, by omega, rfl, HF⟩
  case round =>
    clear HF
    obtain ⟨k, hk1, hk9, rfl, HF⟩ := hrel
    generalize hb3 : X.heap.size = b3 at HF ⊢
    have HB3 := Lib.hid hb3
    clear hb3
    by_cases hlt : k ≤ 8
    · have hk' : (k : Int) ≤ 8 := by omega
      have C1 : Hid (∀ W, Calls Tryd.prog 18 #[.int .i64 k] W (Ret (.tuple #[clkV k 0 0, .int .i64 0]) W)) := fun W => by
        have := New_any k W
        have hs : siteB k = true := by simp [siteB]; omega
        rwa [hs] at this
      go_wp2_with fail
      refine (C1.out _).mono ?_
      rintro e W1 ⟨rfl, hb⟩
      replace HF := Lib.hid (HF.out.below hb)
      clear hb C1
      go_upto_region 8 with (refine L_kstore (.tmp 5) (.tmp 26) k 0 0 rfl rfl (Blk.new _ _ _) ?_)
      have hb : Below W1.heap.size W1 ((W1.alloc (.cells (clkC 0 0 0) 41)).setRow W1.heap.size (clkC k 0 0)) := below_setRowK ((Below.refl _ _).alloc (Nat.le_refl _) _) (Nat.le_refl _) _
      have H5 := Lib.hid ((Blk.new W1 41 (clkC 0 0 0)).row (clkC k 0 0))
      replace HF := Lib.hid (HF.out.below hb)
      clear hb
      generalize (W1.alloc (.cells (clkC 0 0 0) 41)).setRow W1.heap.size (clkC k 0 0) = W2 at HF H5 ⊢
      generalize W1.heap.size = b5 at H5 ⊢
      have c0 := H5.out.cell 0
      have c1 := H5.out.cell 1
      have c2 := H5.out.cell 2
      simp at c0 c1 c2
      obtain ⟨y0, y1, y2⟩ := clkArr_get (mk0 k) (show k < 9 by omega)
      have x0 := (HF.out.ck.cell (k * 3)).trans y0
      have x1 := (HF.out.ck.cell (k * 3 + 1)).trans y1
      have x2 := (HF.out.ck.cell (k * 3 + 2)).trans y2
      have f0 := HF.out.ck.frozen (k * 3)
      have f1 := HF.out.ck.frozen (k * 3 + 1)
      have f2 := HF.out.ck.frozen (k * 3 + 2)
      clear y0 y1 y2
      generalize (mk0 k k).s = v0 at x0
      generalize (mk0 k k).t = v1 at x1
      generalize (mk0 k k).q = v2 at x2
      have HF' : Hid (Fr1 w a n L b3 (k + 1) (((W2.setCell ⟨b3, k * 3, none⟩ (.int .i64 k)).setCell ⟨b3, k * 3 + 1, none⟩ (.int .u64 0)).setCell ⟨b3, k * 3 + 2, none⟩ (.int .u64 0))) := by
        have hc := HF.out.ck.set3 (k * 3) (.int .i64 k) (.int .u64 0) (.int .u64 0)
        rw [clkArr_set (mk0 k) (show k < 9 by omega) ⟨k, 0, 0⟩, mk0_step k hk1] at hc
        have hb := below_set3 HF.out.hb HF.out.o3 (k * 3) (.int .i64 k) (.int .u64 0) (.int .u64 0)
        exact ⟨HS.out.below hb, hb, hc, HF.out.o3⟩
      clear HF H5 
      go_wp2_with fail
      go_roundw
      case rel => exact ⟨k + 1, by omega, by omega, by go_num, HF'⟩
      case measure => simp [RowKit.intOf] <;> omega
    · have hk9' : k = 9 := by omega
      subst hk9'
      have hmm := @run_makeMap Tryd.prog
      have hG : FrG w a n L b3 wr.heap.size (wr.heap.size + 1) (mk0 9) (fun _ => ⟨0, 0, 0⟩) [] ((wr.alloc (.map #[] 0)).alloc (.cells (idArr fun _ => ⟨0, 0, 0⟩) 59)) := by
        have hb : Below wr.heap.size wr (wr.alloc (.map #[] 0)) := (Below.refl _ _).alloc (Nat.le_refl _) _
        have hb2 : Below wr.heap.size wr ((wr.alloc (.map #[] 0)).alloc (.cells (idArr fun _ => ⟨0, 0, 0⟩) 59)) := hb.alloc (by simp) _
        have h8 := Blk.new (wr.alloc (.map #[] 0)) 59 (idArr fun _ => ⟨0, 0, 0⟩)
        rw [World.size_alloc] at h8
        have hm : Given wr.heap.size [] (wr.alloc (.map #[] 0)) := ⟨0, Nat.le_refl _, Go.World.ownsMap_made wr Tryd.prog 27 (plainElem Tryd.prog 3)⟩
        exact ⟨HF.out.row.below hb2, HF.out.hb.trans (hb2.mono HF.out.hb.size), HF.out.ck.below hb2 HF.out.ck.lt, h8, hm.below ((Below.refl _ _).alloc (Nat.le_refl _) _), HF.out.o3, HF.out.ck.lt, Nat.lt_succ_self _⟩
      have HG := Lib.hid hG
      clear hG HF HB3 hk1 hk9 hlt
      go_wp2_with fail
      clear hmm
      generalize wr.heap.size = b7 at HG ⊢
      go_loopw [36] (fun i wz => ∃ (k : Nat) (C : Nat → Clk) (I : Nat → Idn) (G : List Idn), k ≤ n ∧ k ≤ 60 ∧ i = .int .i64 k ∧ Hid (FrG w a n L b3 b7 (b7 + 1) C I G wz) ∧ Hid (GInv k C I G)) (fun i _ => n - (RowKit.intOf i).toNat)
      case atStart => exact ⟨0, mk0 9, fun _ => ⟨0, 0, 0⟩, [], Nat.zero_le _, by omega, rfl, HG, GInv.start⟩
      case round =>
        clear HG
        rename_i hrel
        obtain ⟨k, C, I, G, hk, hk60, rfl, HF, HI⟩ := hrel
        by_cases hlt : k < n
        · have hkn : (k : Int) < (n : Int) := by omega
          obtain ⟨g, off, x, rfl, hx, hg, hv⟩ := rowElem HF.out.row hlt
          have hxin := HIN.out x (List.mem_of_getElem? hx)
          have x0 := hv 0 _ rfl
          have x1 := hv 1 _ rfl
          have x2 := hv 2 _ rfl
          clear hv hx hg
          obtain ⟨xs, xb, xt⟩ := x
          obtain ⟨t, rfl⟩ := Int.eq_ofNat_of_zero_le hxin.t0
          obtain ⟨r, hr8, hr⟩ : ∃ r : Nat, r < 8 ∧ (IntKind.u64.wrap xs).tmod 8 = r := by
            have h0 : 0 ≤ IntKind.u64.wrap xs := by unfold IntKind.wrap; simp [IntKind.bits, IntKind.signed]; omega
            refine ⟨((IntKind.u64.wrap xs).tmod 8).toNat, ?_, ?_⟩ <;> rw [Int.tmod_eq_emod_of_nonneg h0] <;> omega
          obtain ⟨m, hm⟩ : ∃ m, m = r + 1 := ⟨_, rfl⟩
          have hz2 : wrap64 (r : Int) = r := by unfold wrap64; omega
          have hz3 : wrap64 (1 + (r : Int)) = m := by unfold wrap64; omega
          have hm1 : 1 ≤ m := by omega
          have hm8 : m ≤ 8 := by omega
          have hm0 : (0 : Int) ≤ m := by omega
          have hm9 : (m : Int) < 9 := by omega
          clear hxin hm hr8
          simp only [Nat.add_zero] at x0 x1 x2
          have H10 := Lib.hid (Blk.new wr 61 #[.int .i64 xs, .bool xb, .int .u64 t])
          by_cases hk60' : k = 60
          · subst hk60'
            have HB := Lib.hid (HF.out.hb.alloc HF.out.hb.size (.cells #[.int .i64 xs, .bool xb, .int .u64 t] 61))
            go_wp2_with fail
            go_ret
            exact ⟨rfl, HB.out⟩
          · have hb60 : ((k : Int) == 60) = false := by rw [beq_eq_false_iff_ne]; omega
            have hb : Below wr.heap.size wr (wr.alloc (.cells #[.int .i64 xs, .bool xb, .int .u64 t] 61)) := (Below.refl _ _).alloc (Nat.le_refl _) _
            have HFW := Lib.hid (HF.out.below hb)
            clear hb
            cases xb with
            | true =>
              go_upto_region 19 with fail
              rw [hz3]
              clear x0 x1 x2 HF hz2 hz3 hr
              generalize wr.alloc (.cells #[.int .i64 xs, .bool true, .int .u64 t] 61) = W at H10 HFW ⊢
              generalize wr.heap.size = b10 at H10 ⊢
              obtain ⟨u, hu⟩ : ∃ u : Nat, u = t % 1099511627776 := ⟨_, rfl⟩
              have hu40 : u < 1099511627776 := by omega
              have hmod : (t : Int).tmod 1099511627776 = (u : Int) := by rw [Int.tmod_eq_emod_of_nonneg (by omega)]; omega
              clear hu
              obtain ⟨T, Q, hT, hQ, hTb, hQb⟩ : ∃ T Q : Int, (C m).t = T ∧ (C m).q = Q ∧ (0 ≤ T ∧ T ≤ 1099511627776 + k) ∧ (0 ≤ Q ∧ Q ≤ k) := ⟨_, _, rfl, rfl, HI.out.t0 m hm1 hm8, HI.out.q0 m hm1 hm8⟩
              have hCm : C m = ⟨m, T, Q⟩ := by
                have h1 := HI.out.site m hm1 hm8
                rw [← hT, ← hQ, ← h1]
              obtain ⟨T', hT'⟩ : ∃ T' : Int, T' = maxL T [(u : Int)] := ⟨_, rfl⟩
              have hT1 : T ≤ T' ∧ (u : Int) ≤ T' ∧ T' ≤ 1099511627776 + k := by rw [hT']; show T ≤ max T (u : Int) ∧ (u : Int) ≤ max T (u : Int) ∧ max T (u : Int) ≤ _; omega
              have C1 : Hid (∀ Y b, Blk Y b 25 #[.int .u64 u] → Calls Tryd.prog 21 #[clkV m T Q, .slice (some ⟨b, 0, none⟩) 1 1] Y (Ret (.tuple #[clkV m T' Q, .int .i64 0]) Y)) := fun Y b hY => by
                have := See_ok m T Q (some ⟨b, 0, none⟩) 1 1 [(u : Int)] Y (rowU_one hY) (by
                  unfold seeE okClk
                  rw [if_pos (by simp only [siteB, Bool.and_eq_true, decide_eq_true_eq]; unfold maxT; omega), if_pos (by intro x hx; simp at hx; subst hx; unfold maxT; omega)])
                rwa [← hT'] at this
              have HT := Lib.hid (And.intro hT1 (And.intro hTb hQb))
              have HCm := Lib.hid hCm
              clear hT1 hT' hT hQ hTb hQb hCm hu40
              obtain ⟨S, hS⟩ : ∃ S : World → Prop, S = fun Y => Below W.heap.size W Y := ⟨_, rfl⟩
              have HSd : Hid (∀ Y, S Y → Below W.heap.size W Y) := by intro Y hY; rw [hS] at hY; exact hY
              have HSx : Hid (∀ Y, S Y → Y.cell? ⟨b3, m * 3, none⟩ = some (.int .i64 m) ∧ Y.cell? ⟨b3, m * 3 + 1, none⟩ = some (.int .u64 T) ∧ Y.cell? ⟨b3, m * 3 + 2, none⟩ = some (.int .u64 Q) ∧ Y.cell? ⟨b10, 2, none⟩ = some (.int .u64 t)) := fun Y hY => by
                have h := (HFW.out.below (HSd.out Y hY)).ck
                have h2 := H10.out.below (HSd.out Y hY) H10.out.lt
                obtain ⟨y0, y1, y2⟩ := clkArr_get C (show m < 9 by omega)
                rw [HCm.out] at y0 y1 y2
                exact ⟨(h.cell _).trans y0, (h.cell _).trans y1, (h.cell _).trans y2, h2.cell 2⟩
              have HSn : Hid (∀ Y Y', S Y → Below Y.heap.size Y Y' → S Y') := by intro Y Y' hY hb; rw [hS] at hY ⊢; exact hY.trans (hb.mono hY.size)
              have hS0 : S W.drew := by rw [hS]; exact (Below.refl _ _).drew
              clear hS
              refine wp_region_text_rel 12 S (fun k v Y => match k with
                | 6 => ∃ b, v = .slice (some ⟨b, 0, none⟩) 1 1 ∧ Blk Y b 25 #[.int .u64 (u : Int)]
                | 7 => v = .tuple #[clkV m T' Q, .int .i64 0]
                | 11 => ∃ b, v = .pointer (some ⟨b, 0, none⟩) ∧ W.heap.size ≤ b ∧ Blk Y b 41 (clkC 0 0 0)
                | _ => True) rfl (by kernel_rfl) (by kernel_rfl) (by kernel_rfl) (by kernel_rfl) (by intro c a d v w h; cases d <;> exact h) (by rintro ⟨_, _, h⟩; cases h.1) (by
                  intro k u Y Y' hb hF
                  revert hF
                  split <;> intro hF
                  case h_1 => obtain ⟨b, e, h⟩ := hF; exact ⟨b, e, h.below hb h.lt⟩
                  case h_3 => obtain ⟨b, e, h0, h⟩ := hF; exact ⟨b, e, h0, h.below hb h.lt⟩
                  all_goals exact hF) hS0 ?_
              clear hS0
              simp only [List.take_succ_cons, List.take_zero, List.drop_succ_cons, List.drop_zero]
              refine relSeq_on rfl (fun K hK w1 hS1 hD1 => ?_)
              obtain ⟨i0, i1, i2, i3⟩ := HSx.out w1 hS1
              go_simp
              refine ⟨⟨trivial, hS1, Below.refl _ _⟩, hK _ ?_⟩
              clear hK hD1 i0 i1 i2 i3 hS1 K w1
              refine relSeq_on rfl (fun K hK w1 hS1 hD1 => ?_)
              obtain ⟨i0, i1, i2, i3⟩ := HSx.out w1 hS1
              go_simp
              refine ⟨⟨trivial, hS1, Below.refl _ _⟩, hK _ ?_⟩
              clear hK hD1 i0 i1 i2 i3 hS1 K w1
              refine relSeq_on rfl (fun K hK w1 hS1 hD1 => ?_)
              obtain ⟨i0, i1, i2, i3⟩ := HSx.out w1 hS1
              go_simp
              refine ⟨⟨trivial, hS1, Below.refl _ _⟩, hK _ ?_⟩
              clear hK hD1 i0 i1 i2 i3 hS1 K w1
              refine relSeq_on rfl (fun K hK w1 hS1 hD1 => ?_)
              obtain ⟨i0, i1, i2, i3⟩ := HSx.out w1 hS1
              go_simp
              refine ⟨⟨trivial, hS1, Below.refl _ _⟩, hK _ ?_⟩
              clear hK hD1 i0 i1 i2 i3 hS1 K w1
              refine relSeq_on rfl (fun K hK w1 hS1 hD1 => ?_)
              obtain ⟨i0, i1, i2, i3⟩ := HSx.out w1 hS1
              go_simp
              refine ⟨⟨trivial, hS1, Below.refl _ _⟩, hK _ ?_⟩
              clear hK hD1 i0 i1 i2 i3 hS1 K w1
              refine relSeq_on rfl (fun K hK w1 hS1 hD1 => ?_)
              obtain ⟨i0, i1, i2, i3⟩ := HSx.out w1 hS1
              go_simp
              refine ⟨⟨trivial, hS1, Below.refl _ _⟩, hK _ ?_⟩
              clear hK hD1 i0 i1 i2 i3 hS1 K w1
              refine relSeq_on rfl (fun K hK w1 hS1 hD1 => ?_)
              go_simp
              refine ⟨⟨⟨_, rfl, Blk.new _ _ _⟩, HSn.out _ _ hS1 ((Below.refl _ _).alloc (Nat.le_refl _) _), (Below.refl _ _).alloc (Nat.le_refl _) _⟩, hK _ ?_⟩
              generalize w1.heap.size = g6
              clear hK hD1 hS1 K w1
              refine relSeq_on rfl (fun K hK w1 hS1 hD1 => ?_)
              go_simp
              obtain ⟨b1, e2, h2⟩ := hD1 ⟨6, .data⟩ (by simp) rfl _ _ rfl rfl
              obtain rfl : b1 = g6 := by simp at e2; exact e2.symm
              refine ⟨(C1.out w1 _ h2).mono fun e w2 he => ⟨_, he.1, rfl, HSn.out _ _ hS1 he.2, he.2⟩, fun v hv => ?_⟩
              obtain ⟨_, _, hv⟩ := hv.out
              obtain rfl : v = .tuple #[clkV m T' Q, .int .i64 0] := hv
              refine hK _ ?_
              clear hK hD1 hS1 K w1 hv e2 h2
              refine relSeq_on rfl (fun K hK w1 hS1 hD1 => ?_)
              obtain ⟨i0, i1, i2, i3⟩ := HSx.out w1 hS1
              go_simp
              refine ⟨⟨trivial, hS1, Below.refl _ _⟩, hK _ ?_⟩
              clear hK hD1 i0 i1 i2 i3 hS1 K w1
              refine relSeq_on rfl (fun K hK w1 hS1 hD1 => ?_)
              obtain ⟨i0, i1, i2, i3⟩ := HSx.out w1 hS1
              go_simp
              refine ⟨⟨trivial, hS1, Below.refl _ _⟩, hK _ ?_⟩
              clear hK hD1 i0 i1 i2 i3 hS1 K w1
              refine relSeq_on rfl (fun K hK w1 hS1 hD1 => ?_)
              obtain ⟨i0, i1, i2, i3⟩ := HSx.out w1 hS1
              go_simp
              refine ⟨⟨trivial, hS1, Below.refl _ _⟩, hK _ ?_⟩
              clear hK hD1 i0 i1 i2 i3 hS1 K w1
              refine relSeq_on rfl (fun K hK w1 hS1 hD1 => ?_)
              go_simp
              refine ⟨⟨⟨_, rfl, (HSd.out w1 hS1).size, Blk.new _ _ _⟩, HSn.out _ _ hS1 ((Below.refl _ _).alloc (Nat.le_refl _) _), (Below.refl _ _).alloc (Nat.le_refl _) _⟩, hK _ ?_⟩
              generalize w1.heap.size = g11
              clear hK hD1 hS1 K w1
              refine relSeq_nil ?_
              intro listed Z hS2 hF2 hl2
              obtain ⟨b12, e0, hlt12, hb12⟩ := hF2 11 _ _ rfl rfl (hl2 11 (by omega))
              obtain rfl : b12 = g11 := by simp at e0; exact e0.symm
              have H12 := Lib.hid hb12
              have HBZ := Lib.hid (HSd.out Z hS2)
              clear hF2 hl2 e0 hb12 HSx HSn HSd hS2 C1
              go_upto_region 20 with (refine L_kstore (.tmp 12) (.tmp 60) m T' Q rfl rfl H12.out ?_)
              have hbV : Below W.heap.size W (Z.setRow b12 (clkC m T' Q)) := below_setRowK HBZ.out hlt12 _
              replace HFW := Lib.hid (HFW.out.below hbV)
              replace H10 := Lib.hid (H10.out.below hbV H10.out.lt)
              replace H12 := Lib.hid (H12.out.row (clkC m T' Q))
              clear hbV hlt12 HBZ
              generalize Z.setRow b12 (clkC m T' Q) = V at HFW H10 H12 ⊢
              obtain ⟨y0, y1, y2⟩ := clkArr_get C (show m < 9 by omega)
              rw [HCm.out] at y0 y1 y2
              have i0 := (HFW.out.ck.cell (m * 3)).trans y0
              have i1 := (HFW.out.ck.cell (m * 3 + 1)).trans y1
              have i2 := (HFW.out.ck.cell (m * 3 + 2)).trans y2
              have f0 := HFW.out.ck.frozen (m * 3)
              have f1 := HFW.out.ck.frozen (m * 3 + 1)
              have f2 := HFW.out.ck.frozen (m * 3 + 2)
              clear y0 y1 y2
              have c0 := H12.out.cell 0
              have c1 := H12.out.cell 1
              have c2 := H12.out.cell 2
              have t2 := H10.out.cell 2
              simp at c0 c1 c2 t2
              have hd1 : decide (T' < T) = false := by have := HT.out.1.1; simp; omega
              have hd2 : decide (T' < (u : Int)) = false := by have := HT.out.1.2.1; simp; omega
              have HI' : Hid (GInv (k + 1) (fun j => if j = m then ⟨m, T', Q⟩ else C j) I G) := by
                have := HI.out.see m hm1 hm8 T' (by rw [HCm.out]; exact HT.out.1.1) HT.out.1.2.2
                rwa [show (C m).q = Q by rw [HCm.out]] at this
              clear H10 H12 HT HCm HI
              go_wp2_with fail
              go_quiet (fail)
              have HF' : Hid (FrG w (some ⟨g, off, none⟩) n L b3 b7 (b7 + 1) (fun j => if j = m then ⟨m, T', Q⟩ else C j) I G ((((V.drewN nq).setCell ⟨b3, m * 3, none⟩ (.int .i64 m)).setCell ⟨b3, m * 3 + 1, none⟩ (.int .u64 T')).setCell ⟨b3, m * 3 + 2, none⟩ (.int .u64 Q))) := (HFW.out.below (below_drewN V nq)).setC HS.out (show m < 9 by omega) ⟨m, T', Q⟩
              clear HFW
              go_wp2_with fail
              go_roundw
              case rel => exact ⟨k + 1, _, _, _, by omega, by omega, by go_num, HF', HI'⟩
              case measure => simp [RowKit.intOf] <;> omega
            | false =>
              go_upto_region 23 with fail
              rw [hz3]
              clear x0 x1 x2 HF hz2 hz3 hr H10
              generalize wr.alloc (.cells #[.int .i64 xs, .bool false, .int .u64 t] 61) = W at HFW ⊢
              generalize wr.heap.size = b10
              obtain ⟨T, Q, hT, hQ, hTb, hQb⟩ : ∃ T Q : Int, (C m).t = T ∧ (C m).q = Q ∧ (0 ≤ T ∧ T ≤ 1099511627776 + k) ∧ (0 ≤ Q ∧ Q ≤ k) := ⟨_, _, rfl, rfl, HI.out.t0 m hm1 hm8, HI.out.q0 m hm1 hm8⟩
              have hCm : C m = ⟨m, T, Q⟩ := by
                have h1 := HI.out.site m hm1 hm8
                rw [← hT, ← hQ, ← h1]
              have C1 : Hid (∀ Y, Calls Tryd.prog 20 #[clkV m T Q] Y (Ret (.tuple #[clkV m (T + 1) (Q + 1), idV (T + 1) m (Q + 1), .int .i64 0]) Y)) := fun Y => Next_ok m T Q hTb.1 hQb.1 (by
                unfold nextE okClk
                rw [if_pos (by simp only [siteB, Bool.and_eq_true, decide_eq_true_eq]; unfold maxT; omega), if_pos (by unfold maxT; omega)]) Y
              have C2 : Hid (∀ Y, Calls Tryd.prog 14 #[idV (T + 1) m (Q + 1)] Y (Ret (.int .i64 0) Y)) := fun Y => Check_id_ok (T + 1) m (Q + 1) ((okId_iff _ _ _).2 (by unfold maxT; omega)) Y
              have hIn : (⟨T + 1, m, Q + 1⟩ : Idn).In := ⟨by simp <;> omega, by simp <;> omega, by simp <;> omega, by simp <;> omega, by simp <;> omega, by simp <;> omega⟩
              have hfr : (⟨T + 1, m, Q + 1⟩ : Idn) ∉ G := by
                have := HI.out.fresh m hm1 hm8
                rwa [hT, hQ] at this
              have hLq : (I m).q = Q := by rw [HI.out.lq m hm1 hm8, hQ]
              have hLt : (I m).t ≤ T := by have := HI.out.lt m hm1 hm8; rwa [hT] at this
              have C3 : Hid (∀ Y, Calls Tryd.prog 25 #[(I m).val, idV (T + 1) m (Q + 1)] Y (Ret (.bool true) Y)) := fun Y => by
                have := Less_any (I m) ⟨T + 1, m, Q + 1⟩ Y
                rwa [(lessId_iff _ _).2 (.inl (by simp only; omega))] at this
              have hd1 : decide (T + 1 ≤ T) = false := by simp; omega
              have hw : IntKind.u64.wrap (Q + 1) = Q + 1 := IntWalk.u64_in _ (by omega)
              have HGI : Hid (GInv (k + 1) (fun j => if j = m then ⟨m, T + 1, Q + 1⟩ else C j) (fun j => if j = m then ⟨T + 1, m, Q + 1⟩ else I j) (G ++ [⟨T + 1, m, Q + 1⟩])) := by
                have := HI.out.give (by omega) m hm1 hm8
                rwa [hT, hQ] at this
              have HLK : Hid (∀ Y, Given b7 G Y → (Instr.lookup 58 (.map (some b7)) (idV (T + 1) m (Q + 1)) false).run Tryd.prog Y = .ok (.int .i64 0) Y) := fun Y h => h.look HI.out.ids ⟨T + 1, m, Q + 1⟩ hIn hfr
              have HPUT : Hid (∀ Y, Given b7 G Y ∨ Given b7 (G ++ [⟨T + 1, m, Q + 1⟩]) Y → ∃ Y', (Instr.mapUpdate 58 (.map (some b7)) (idV (T + 1) m (Q + 1)) (.int .i64 1)).run Tryd.prog Y = .ok () Y' ∧ Given b7 (G ++ [⟨T + 1, m, Q + 1⟩]) Y' ∧ Y.grownBy Y' (some b7)) := fun Y h => Given.put ⟨T + 1, m, Q + 1⟩ HI.out.ids hIn (by have := HI.out.len; omega) h
              have HCm := Lib.hid hCm
              have HQ := Lib.hid (And.intro hLq (And.intro hTb hQb))
              obtain ⟨lt0, ls0, hIm⟩ : ∃ lt0 ls0 : Int, I m = ⟨lt0, ls0, Q⟩ := ⟨_, _, by rw [← hLq]⟩
              have HIm := Lib.hid hIm
              rw [hIm] at C3
              clear hCm hIn hfr hLq hLt hIm hT hQ HI
              obtain ⟨y0, y1, y2⟩ := clkArr_get C (show m < 9 by omega)
              rw [HCm.out] at y0 y1 y2
              have i0 := (HFW.out.ck.cell (m * 3)).trans y0
              have i1 := (HFW.out.ck.cell (m * 3 + 1)).trans y1
              have i2 := (HFW.out.ck.cell (m * 3 + 2)).trans y2
              have f0 := HFW.out.ck.frozen (m * 3)
              have f1 := HFW.out.ck.frozen (m * 3 + 1)
              have f2 := HFW.out.ck.frozen (m * 3 + 2)
              clear y0 y1 y2
              clear f0 f1 f2
              go_wp2_with fail
              refine (C1.out _).mono ?_
              rintro e W1 ⟨rfl, hb⟩
              replace HFW := Lib.hid (HFW.out.below hb)
              clear hb i0 i1 i2 C1
              have B14 := Lib.hid ((Blk.new W1 41 (clkC 0 0 0)).alloc (.cells #[.int .u64 0, .int .i64 0, .int .u64 0] 27))
              have b15 := Blk.new (W1.alloc (.cells (clkC 0 0 0) 41)) 27 #[.int .u64 0, .int .i64 0, .int .u64 0]
              rw [World.size_alloc] at b15
              have B15 := Lib.hid (b15.row_other (k := W1.heap.size) (by omega) (clkC m (T + 1) (Q + 1)))
              clear b15
              go_upto_region 24 with (first
                | (refine L_kstore (.tmp 14) (.tmp 98) m (T + 1) (Q + 1) rfl rfl B14.out ?_)
                | (refine L_istoreV (.tmp 15) (.tmp 99) (T + 1) m (Q + 1) rfl rfl B15.out ?_))
              have hb : Below W1.heap.size W1 ((((W1.alloc (.cells (clkC 0 0 0) 41)).alloc (.cells #[.int .u64 0, .int .i64 0, .int .u64 0] 27)).setRow W1.heap.size (clkC m (T + 1) (Q + 1))).setRow (W1.heap.size + 1) #[.int .u64 (T + 1), .int .i64 m, .int .u64 (Q + 1)]) := below_setRowK (below_setRowK (((Below.refl _ _).alloc (Nat.le_refl _) _).alloc (by simp) _) (Nat.le_refl _) _) (by omega) _
              have HB14 := Lib.hid ((B14.out.row (clkC m (T + 1) (Q + 1))).row_other (k := W1.heap.size + 1) (by omega) #[.int .u64 (T + 1), .int .i64 m, .int .u64 (Q + 1)])
              have HB15 := Lib.hid (B15.out.row #[.int .u64 (T + 1), .int .i64 m, .int .u64 (Q + 1)])
              have N14 : Hid (b7 + 1 < W1.heap.size) := HFW.out.ls.lt
              replace HFW := Lib.hid (HFW.out.below hb)
              clear hb B14 B15
              generalize (((W1.alloc (.cells (clkC 0 0 0) 41)).alloc (.cells #[.int .u64 0, .int .i64 0, .int .u64 0] 27)).setRow W1.heap.size (clkC m (T + 1) (Q + 1))).setRow (W1.heap.size + 1) #[.int .u64 (T + 1), .int .i64 m, .int .u64 (Q + 1)] = V at HFW HB14 HB15 ⊢
              have N15 : Hid (b7 + 1 < W1.heap.size + 1) := Nat.lt_succ_of_lt N14.out
              generalize W1.heap.size + 1 = q15 at HB15 N15 ⊢
              generalize W1.heap.size = q14 at HB14 N14 ⊢
              have HXX : Hid (∀ Y, Below V.heap.size V Y → (Y.cell? ⟨q15, 0, none⟩ = some (.int .u64 (T + 1)) ∧ Y.cell? ⟨q15, 1, none⟩ = some (.int .i64 m) ∧ Y.cell? ⟨q15, 2, none⟩ = some (.int .u64 (Q + 1))) ∧ (Y.cell? ⟨b3, m * 3 + 1, none⟩ = some (.int .u64 T)) ∧ (Y.cell? ⟨b7 + 1, m * 3, none⟩ = some (.int .u64 lt0) ∧ Y.cell? ⟨b7 + 1, m * 3 + 1, none⟩ = some (.int .i64 ls0) ∧ Y.cell? ⟨b7 + 1, m * 3 + 2, none⟩ = some (.int .u64 Q)) ∧ (Instr.lookup 58 (.map (some b7)) (idV (T + 1) m (Q + 1)) false).run Tryd.prog Y = .ok (.int .i64 0) Y) := fun Y hY => by
                have h := HFW.out.below hY
                have h2 := HB15.out.below hY HB15.out.lt
                obtain ⟨y0, y1, y2⟩ := clkArr_get C (show m < 9 by omega)
                rw [HCm.out] at y0 y1 y2
                obtain ⟨z0, z1, z2⟩ := idArr_get I (show m < 9 by omega)
                rw [HIm.out] at z0 z1 z2
                exact ⟨⟨h2.cell 0, h2.cell 1, h2.cell 2⟩, (h.ck.cell _).trans y1, ⟨(h.ls.cell _).trans z0, (h.ls.cell _).trans z1, (h.ls.cell _).trans z2⟩, HLK.out Y h.mp⟩
              -- region 24
              obtain ⟨S, hS⟩ : ∃ S : World → Prop, S = fun Y => Below V.heap.size V Y := ⟨_, rfl⟩
              have HSd : Hid (∀ Y, S Y → Below V.heap.size V Y) := by intro Y hY; rw [hS] at hY; exact hY
              have HSn : Hid (∀ Y Y', S Y → Below Y.heap.size Y Y' → S Y') := by intro Y Y' hY hb; rw [hS] at hY ⊢; exact hY.trans (hb.mono hY.size)
              have hS0 : S V.drew := by rw [hS]; exact (Below.refl _ _).drew
              clear hS
              refine wp_region_held_rel 37 S (fun k v Y => match k with | 4 => v = .int .i64 0 | _ => True) rfl (by kernel_rfl) (by kernel_rfl) (by kernel_rfl) (fun _ _ _ _ _ h => h) hS0 ?_
              clear hS0
              simp only [List.take_succ_cons, List.take_zero, List.drop_succ_cons, List.drop_zero]
              refine relSeq_on rfl (fun K hK w1 hS1 hD1 => ?_)
              obtain ⟨⟨i0, i1, i2⟩, i3, ⟨i4, i5, i6⟩, i7⟩ := HXX.out w1 (HSd.out w1 hS1)
              go_simp
              refine ⟨⟨trivial, hS1, Below.refl _ _⟩, hK _ ?_⟩
              clear hK hD1 i0 i1 i2 i3 i4 i5 i6 i7 hS1 K w1
              refine relSeq_on rfl (fun K hK w1 hS1 hD1 => ?_)
              obtain ⟨⟨i0, i1, i2⟩, i3, ⟨i4, i5, i6⟩, i7⟩ := HXX.out w1 (HSd.out w1 hS1)
              go_simp
              refine ⟨⟨trivial, hS1, Below.refl _ _⟩, hK _ ?_⟩
              clear hK hD1 i0 i1 i2 i3 i4 i5 i6 i7 hS1 K w1
              refine relSeq_on rfl (fun K hK w1 hS1 hD1 => ?_)
              obtain ⟨⟨i0, i1, i2⟩, i3, ⟨i4, i5, i6⟩, i7⟩ := HXX.out w1 (HSd.out w1 hS1)
              go_simp
              refine ⟨⟨trivial, hS1, Below.refl _ _⟩, hK _ ?_⟩
              clear hK hD1 i0 i1 i2 i3 i4 i5 i6 i7 hS1 K w1
              refine relSeq_on rfl (fun K hK w1 hS1 hD1 => ?_)
              obtain ⟨⟨i0, i1, i2⟩, i3, ⟨i4, i5, i6⟩, i7⟩ := HXX.out w1 (HSd.out w1 hS1)
              go_simp
              refine ⟨⟨trivial, hS1, Below.refl _ _⟩, hK _ ?_⟩
              clear hK hD1 i0 i1 i2 i3 i4 i5 i6 i7 hS1 K w1
              refine relSeq_on rfl (fun K hK w1 hS1 hD1 => ?_)
              go_simp
              refine ⟨(C2.out w1).mono fun e w2 he => ⟨_, he.1, rfl, HSn.out _ _ hS1 he.2, he.2⟩, fun v hv => ?_⟩
              obtain ⟨_, _, hv⟩ := hv.out
              obtain rfl : v = .int .i64 0 := hv
              refine hK _ ?_
              clear hK hD1 hS1 K w1 hv
              refine relSeq_on rfl (fun K hK w1 hS1 hD1 => ?_)
              obtain ⟨⟨i0, i1, i2⟩, i3, ⟨i4, i5, i6⟩, i7⟩ := HXX.out w1 (HSd.out w1 hS1)
              go_simp
              refine ⟨⟨trivial, hS1, Below.refl _ _⟩, hK _ ?_⟩
              clear hK hD1 i0 i1 i2 i3 i4 i5 i6 i7 hS1 K w1
              refine relSeq_on rfl (fun K hK w1 hS1 hD1 => ?_)
              obtain ⟨⟨i0, i1, i2⟩, i3, ⟨i4, i5, i6⟩, i7⟩ := HXX.out w1 (HSd.out w1 hS1)
              go_simp
              refine ⟨⟨trivial, hS1, Below.refl _ _⟩, hK _ ?_⟩
              clear hK hD1 i0 i1 i2 i3 i4 i5 i6 i7 hS1 K w1
              refine relSeq_on rfl (fun K hK w1 hS1 hD1 => ?_)
              obtain ⟨⟨i0, i1, i2⟩, i3, ⟨i4, i5, i6⟩, i7⟩ := HXX.out w1 (HSd.out w1 hS1)
              go_simp
              refine ⟨⟨trivial, hS1, Below.refl _ _⟩, hK _ ?_⟩
              clear hK hD1 i0 i1 i2 i3 i4 i5 i6 i7 hS1 K w1
              refine relSeq_on rfl (fun K hK w1 hS1 hD1 => ?_)
              obtain ⟨⟨i0, i1, i2⟩, i3, ⟨i4, i5, i6⟩, i7⟩ := HXX.out w1 (HSd.out w1 hS1)
              go_simp
              refine ⟨⟨trivial, hS1, Below.refl _ _⟩, hK _ ?_⟩
              clear hK hD1 i0 i1 i2 i3 i4 i5 i6 i7 hS1 K w1
              refine relSeq_on rfl (fun K hK w1 hS1 hD1 => ?_)
              obtain ⟨⟨i0, i1, i2⟩, i3, ⟨i4, i5, i6⟩, i7⟩ := HXX.out w1 (HSd.out w1 hS1)
              go_simp
              refine ⟨⟨trivial, hS1, Below.refl _ _⟩, hK _ ?_⟩
              clear hK hD1 i0 i1 i2 i3 i4 i5 i6 i7 hS1 K w1
              refine relSeq_on rfl (fun K hK w1 hS1 hD1 => ?_)
              obtain ⟨⟨i0, i1, i2⟩, i3, ⟨i4, i5, i6⟩, i7⟩ := HXX.out w1 (HSd.out w1 hS1)
              go_simp
              refine ⟨⟨trivial, hS1, Below.refl _ _⟩, hK _ ?_⟩
              clear hK hD1 i0 i1 i2 i3 i4 i5 i6 i7 hS1 K w1
              refine relSeq_on rfl (fun K hK w1 hS1 hD1 => ?_)
              obtain ⟨⟨i0, i1, i2⟩, i3, ⟨i4, i5, i6⟩, i7⟩ := HXX.out w1 (HSd.out w1 hS1)
              go_simp
              refine ⟨⟨trivial, hS1, Below.refl _ _⟩, hK _ ?_⟩
              clear hK hD1 i0 i1 i2 i3 i4 i5 i6 i7 hS1 K w1
              refine relSeq_on rfl (fun K hK w1 hS1 hD1 => ?_)
              obtain ⟨⟨i0, i1, i2⟩, i3, ⟨i4, i5, i6⟩, i7⟩ := HXX.out w1 (HSd.out w1 hS1)
              go_simp
              refine ⟨⟨trivial, hS1, Below.refl _ _⟩, hK _ ?_⟩
              clear hK hD1 i0 i1 i2 i3 i4 i5 i6 i7 hS1 K w1
              refine relSeq_on rfl (fun K hK w1 hS1 hD1 => ?_)
              obtain ⟨⟨i0, i1, i2⟩, i3, ⟨i4, i5, i6⟩, i7⟩ := HXX.out w1 (HSd.out w1 hS1)
              go_simp
              refine ⟨⟨trivial, hS1, Below.refl _ _⟩, hK _ ?_⟩
              clear hK hD1 i0 i1 i2 i3 i4 i5 i6 i7 hS1 K w1
              refine relSeq_on rfl (fun K hK w1 hS1 hD1 => ?_)
              obtain ⟨⟨i0, i1, i2⟩, i3, ⟨i4, i5, i6⟩, i7⟩ := HXX.out w1 (HSd.out w1 hS1)
              go_simp
              refine ⟨⟨trivial, hS1, Below.refl _ _⟩, hK _ ?_⟩
              clear hK hD1 i0 i1 i2 i3 i4 i5 i6 i7 hS1 K w1
              refine relSeq_on rfl (fun K hK w1 hS1 hD1 => ?_)
              obtain ⟨⟨i0, i1, i2⟩, i3, ⟨i4, i5, i6⟩, i7⟩ := HXX.out w1 (HSd.out w1 hS1)
              go_simp
              refine ⟨⟨trivial, hS1, Below.refl _ _⟩, hK _ ?_⟩
              clear hK hD1 i0 i1 i2 i3 i4 i5 i6 i7 hS1 K w1
              refine relSeq_on rfl (fun K hK w1 hS1 hD1 => ?_)
              obtain ⟨⟨i0, i1, i2⟩, i3, ⟨i4, i5, i6⟩, i7⟩ := HXX.out w1 (HSd.out w1 hS1)
              go_simp
              refine ⟨⟨trivial, hS1, Below.refl _ _⟩, hK _ ?_⟩
              clear hK hD1 i0 i1 i2 i3 i4 i5 i6 i7 hS1 K w1
              refine relSeq_on rfl (fun K hK w1 hS1 hD1 => ?_)
              obtain ⟨⟨i0, i1, i2⟩, i3, ⟨i4, i5, i6⟩, i7⟩ := HXX.out w1 (HSd.out w1 hS1)
              go_simp
              refine ⟨⟨trivial, hS1, Below.refl _ _⟩, hK _ ?_⟩
              clear hK hD1 i0 i1 i2 i3 i4 i5 i6 i7 hS1 K w1
              refine relSeq_on rfl (fun K hK w1 hS1 hD1 => ?_)
              obtain ⟨⟨i0, i1, i2⟩, i3, ⟨i4, i5, i6⟩, i7⟩ := HXX.out w1 (HSd.out w1 hS1)
              go_simp
              refine ⟨⟨trivial, hS1, Below.refl _ _⟩, hK _ ?_⟩
              clear hK hD1 i0 i1 i2 i3 i4 i5 i6 i7 hS1 K w1
              refine relSeq_on rfl (fun K hK w1 hS1 hD1 => ?_)
              obtain ⟨⟨i0, i1, i2⟩, i3, ⟨i4, i5, i6⟩, i7⟩ := HXX.out w1 (HSd.out w1 hS1)
              go_simp
              refine ⟨⟨trivial, hS1, Below.refl _ _⟩, hK _ ?_⟩
              clear hK hD1 i0 i1 i2 i3 i4 i5 i6 i7 hS1 K w1
              refine relSeq_on rfl (fun K hK w1 hS1 hD1 => ?_)
              obtain ⟨⟨i0, i1, i2⟩, i3, ⟨i4, i5, i6⟩, i7⟩ := HXX.out w1 (HSd.out w1 hS1)
              go_simp
              refine ⟨⟨trivial, hS1, Below.refl _ _⟩, hK _ ?_⟩
              clear hK hD1 i0 i1 i2 i3 i4 i5 i6 i7 hS1 K w1
              refine relSeq_on rfl (fun K hK w1 hS1 hD1 => ?_)
              obtain ⟨⟨i0, i1, i2⟩, i3, ⟨i4, i5, i6⟩, i7⟩ := HXX.out w1 (HSd.out w1 hS1)
              go_simp
              refine ⟨⟨trivial, hS1, Below.refl _ _⟩, hK _ ?_⟩
              clear hK hD1 i0 i1 i2 i3 i4 i5 i6 i7 hS1 K w1
              refine relSeq_on rfl (fun K hK w1 hS1 hD1 => ?_)
              obtain ⟨⟨i0, i1, i2⟩, i3, ⟨i4, i5, i6⟩, i7⟩ := HXX.out w1 (HSd.out w1 hS1)
              go_simp
              refine ⟨⟨trivial, hS1, Below.refl _ _⟩, hK _ ?_⟩
              clear hK hD1 i0 i1 i2 i3 i4 i5 i6 i7 hS1 K w1
              refine relSeq_on rfl (fun K hK w1 hS1 hD1 => ?_)
              obtain ⟨⟨i0, i1, i2⟩, i3, ⟨i4, i5, i6⟩, i7⟩ := HXX.out w1 (HSd.out w1 hS1)
              go_simp
              refine ⟨⟨trivial, hS1, Below.refl _ _⟩, hK _ ?_⟩
              clear hK hD1 i0 i1 i2 i3 i4 i5 i6 i7 hS1 K w1
              refine relSeq_on rfl (fun K hK w1 hS1 hD1 => ?_)
              obtain ⟨⟨i0, i1, i2⟩, i3, ⟨i4, i5, i6⟩, i7⟩ := HXX.out w1 (HSd.out w1 hS1)
              go_simp
              refine ⟨⟨trivial, hS1, Below.refl _ _⟩, hK _ ?_⟩
              clear hK hD1 i0 i1 i2 i3 i4 i5 i6 i7 hS1 K w1
              refine relSeq_on rfl (fun K hK w1 hS1 hD1 => ?_)
              obtain ⟨⟨i0, i1, i2⟩, i3, ⟨i4, i5, i6⟩, i7⟩ := HXX.out w1 (HSd.out w1 hS1)
              go_simp
              refine ⟨⟨trivial, hS1, Below.refl _ _⟩, hK _ ?_⟩
              clear hK hD1 i0 i1 i2 i3 i4 i5 i6 i7 hS1 K w1
              refine relSeq_on rfl (fun K hK w1 hS1 hD1 => ?_)
              obtain ⟨⟨i0, i1, i2⟩, i3, ⟨i4, i5, i6⟩, i7⟩ := HXX.out w1 (HSd.out w1 hS1)
              go_simp
              refine ⟨⟨trivial, hS1, Below.refl _ _⟩, hK _ ?_⟩
              clear hK hD1 i0 i1 i2 i3 i4 i5 i6 i7 hS1 K w1
              refine relSeq_on rfl (fun K hK w1 hS1 hD1 => ?_)
              obtain ⟨⟨i0, i1, i2⟩, i3, ⟨i4, i5, i6⟩, i7⟩ := HXX.out w1 (HSd.out w1 hS1)
              go_simp
              refine ⟨⟨trivial, hS1, Below.refl _ _⟩, hK _ ?_⟩
              clear hK hD1 i0 i1 i2 i3 i4 i5 i6 i7 hS1 K w1
              refine relSeq_on rfl (fun K hK w1 hS1 hD1 => ?_)
              obtain ⟨⟨i0, i1, i2⟩, i3, ⟨i4, i5, i6⟩, i7⟩ := HXX.out w1 (HSd.out w1 hS1)
              go_simp
              refine ⟨⟨trivial, hS1, Below.refl _ _⟩, hK _ ?_⟩
              clear hK hD1 i0 i1 i2 i3 i4 i5 i6 i7 hS1 K w1
              refine relSeq_on rfl (fun K hK w1 hS1 hD1 => ?_)
              obtain ⟨⟨i0, i1, i2⟩, i3, ⟨i4, i5, i6⟩, i7⟩ := HXX.out w1 (HSd.out w1 hS1)
              go_simp
              refine ⟨⟨trivial, hS1, Below.refl _ _⟩, hK _ ?_⟩
              clear hK hD1 i0 i1 i2 i3 i4 i5 i6 i7 hS1 K w1
              refine relSeq_on rfl (fun K hK w1 hS1 hD1 => ?_)
              obtain ⟨⟨i0, i1, i2⟩, i3, ⟨i4, i5, i6⟩, i7⟩ := HXX.out w1 (HSd.out w1 hS1)
              go_simp
              refine ⟨⟨trivial, hS1, Below.refl _ _⟩, hK _ ?_⟩
              clear hK hD1 i0 i1 i2 i3 i4 i5 i6 i7 hS1 K w1
              refine relSeq_on rfl (fun K hK w1 hS1 hD1 => ?_)
              obtain ⟨⟨i0, i1, i2⟩, i3, ⟨i4, i5, i6⟩, i7⟩ := HXX.out w1 (HSd.out w1 hS1)
              go_simp
              refine ⟨⟨trivial, hS1, Below.refl _ _⟩, hK _ ?_⟩
              clear hK hD1 i0 i1 i2 i3 i4 i5 i6 i7 hS1 K w1
              refine relSeq_on rfl (fun K hK w1 hS1 hD1 => ?_)
              obtain ⟨⟨i0, i1, i2⟩, i3, ⟨i4, i5, i6⟩, i7⟩ := HXX.out w1 (HSd.out w1 hS1)
              go_simp
              refine ⟨⟨trivial, hS1, Below.refl _ _⟩, hK _ ?_⟩
              clear hK hD1 i0 i1 i2 i3 i4 i5 i6 i7 hS1 K w1
              refine relSeq_on rfl (fun K hK w1 hS1 hD1 => ?_)
              obtain ⟨⟨i0, i1, i2⟩, i3, ⟨i4, i5, i6⟩, i7⟩ := HXX.out w1 (HSd.out w1 hS1)
              go_simp
              refine ⟨⟨trivial, hS1, Below.refl _ _⟩, hK _ ?_⟩
              clear hK hD1 i0 i1 i2 i3 i4 i5 i6 i7 hS1 K w1
              refine relSeq_on rfl (fun K hK w1 hS1 hD1 => ?_)
              obtain ⟨⟨i0, i1, i2⟩, i3, ⟨i4, i5, i6⟩, i7⟩ := HXX.out w1 (HSd.out w1 hS1)
              go_simp
              refine ⟨⟨trivial, hS1, Below.refl _ _⟩, hK _ ?_⟩
              clear hK hD1 i0 i1 i2 i3 i4 i5 i6 i7 hS1 K w1
              refine relSeq_on rfl (fun K hK w1 hS1 hD1 => ?_)
              obtain ⟨⟨i0, i1, i2⟩, i3, ⟨i4, i5, i6⟩, i7⟩ := HXX.out w1 (HSd.out w1 hS1)
              go_simp
              refine ⟨⟨trivial, hS1, Below.refl _ _⟩, hK _ ?_⟩
              clear hK hD1 i0 i1 i2 i3 i4 i5 i6 i7 hS1 K w1
              refine relSeq_on rfl (fun K hK w1 hS1 hD1 => ?_)
              obtain ⟨⟨i0, i1, i2⟩, i3, ⟨i4, i5, i6⟩, i7⟩ := HXX.out w1 (HSd.out w1 hS1)
              go_simp
              refine ⟨⟨trivial, hS1, Below.refl _ _⟩, hK _ ?_⟩
              clear hK hD1 i0 i1 i2 i3 i4 i5 i6 i7 hS1 K w1
              refine relSeq_nil ?_
              intro listed Z hS2 hF2 hl2
              have HZ := Lib.hid (HSd.out Z hS2)
              clear hF2 hl2 HSd HSn hS2 C2 HLK
              replace HXX : Hid (∀ Y, Below Z.heap.size Z Y → (Y.cell? ⟨q15, 0, none⟩ = some (.int .u64 (T + 1)) ∧ Y.cell? ⟨q15, 1, none⟩ = some (.int .i64 m) ∧ Y.cell? ⟨q15, 2, none⟩ = some (.int .u64 (Q + 1))) ∧ (Y.cell? ⟨b3, m * 3 + 1, none⟩ = some (.int .u64 T)) ∧ (Y.cell? ⟨b7 + 1, m * 3, none⟩ = some (.int .u64 lt0) ∧ Y.cell? ⟨b7 + 1, m * 3 + 1, none⟩ = some (.int .i64 ls0) ∧ Y.cell? ⟨b7 + 1, m * 3 + 2, none⟩ = some (.int .u64 Q)) ∧ (Instr.lookup 58 (.map (some b7)) (idV (T + 1) m (Q + 1)) false).run Tryd.prog Y = .ok (.int .i64 0) Y) := fun Y hY => HXX.out Y (HZ.out.trans (hY.mono HZ.out.size))
              replace HFW := Lib.hid (HFW.out.below HZ.out)
              replace HB14 := Lib.hid (HB14.out.below HZ.out HB14.out.lt)
              replace HB15 := Lib.hid (HB15.out.below HZ.out HB15.out.lt)
              clear HZ V
              go_upto_region 26 with fail
              obtain ⟨S, hS⟩ : ∃ S : World → Prop, S = fun Y => Below Z.heap.size Z Y := ⟨_, rfl⟩
              have HSd : Hid (∀ Y, S Y → Below Z.heap.size Z Y) := by intro Y hY; rw [hS] at hY; exact hY
              have HSn : Hid (∀ Y Y', S Y → Below Y.heap.size Y Y' → S Y') := by intro Y Y' hY hb; rw [hS] at hY ⊢; exact hY.trans (hb.mono hY.size)
              have hS0 : S Z.drew := by rw [hS]; exact (Below.refl _ _).drew
              clear hS
              by_cases hq : 0 < Q
              · have hd2 : decide (0 < Q) = true := by simpa using hq
                refine wp_region_held_rel 12 S (fun k v Y => match k with | 10 => v = .bool true | _ => True) rfl (by kernel_rfl) (by kernel_rfl) (by kernel_rfl) (fun _ _ _ _ _ h => h) hS0 ?_
                clear hS0
                simp only [List.take_succ_cons, List.take_zero, List.drop_succ_cons, List.drop_zero]
                refine relSeq_on rfl (fun K hK w1 hS1 hD1 => ?_)
                obtain ⟨⟨i0, i1, i2⟩, i3, ⟨i4, i5, i6⟩, i7⟩ := HXX.out w1 (HSd.out w1 hS1)
                go_simp
                refine ⟨⟨trivial, hS1, Below.refl _ _⟩, hK _ ?_⟩
                clear hK hD1 i0 i1 i2 i3 i4 i5 i6 i7 hS1 K w1
                refine relSeq_on rfl (fun K hK w1 hS1 hD1 => ?_)
                obtain ⟨⟨i0, i1, i2⟩, i3, ⟨i4, i5, i6⟩, i7⟩ := HXX.out w1 (HSd.out w1 hS1)
                go_simp
                refine ⟨⟨trivial, hS1, Below.refl _ _⟩, hK _ ?_⟩
                clear hK hD1 i0 i1 i2 i3 i4 i5 i6 i7 hS1 K w1
                refine relSeq_on rfl (fun K hK w1 hS1 hD1 => ?_)
                obtain ⟨⟨i0, i1, i2⟩, i3, ⟨i4, i5, i6⟩, i7⟩ := HXX.out w1 (HSd.out w1 hS1)
                go_simp
                refine ⟨⟨trivial, hS1, Below.refl _ _⟩, hK _ ?_⟩
                clear hK hD1 i0 i1 i2 i3 i4 i5 i6 i7 hS1 K w1
                refine relSeq_on rfl (fun K hK w1 hS1 hD1 => ?_)
                obtain ⟨⟨i0, i1, i2⟩, i3, ⟨i4, i5, i6⟩, i7⟩ := HXX.out w1 (HSd.out w1 hS1)
                go_simp
                refine ⟨⟨trivial, hS1, Below.refl _ _⟩, hK _ ?_⟩
                clear hK hD1 i0 i1 i2 i3 i4 i5 i6 i7 hS1 K w1
                refine relSeq_on rfl (fun K hK w1 hS1 hD1 => ?_)
                obtain ⟨⟨i0, i1, i2⟩, i3, ⟨i4, i5, i6⟩, i7⟩ := HXX.out w1 (HSd.out w1 hS1)
                go_simp
                refine ⟨⟨trivial, hS1, Below.refl _ _⟩, hK _ ?_⟩
                clear hK hD1 i0 i1 i2 i3 i4 i5 i6 i7 hS1 K w1
                refine relSeq_on rfl (fun K hK w1 hS1 hD1 => ?_)
                obtain ⟨⟨i0, i1, i2⟩, i3, ⟨i4, i5, i6⟩, i7⟩ := HXX.out w1 (HSd.out w1 hS1)
                go_simp
                refine ⟨⟨trivial, hS1, Below.refl _ _⟩, hK _ ?_⟩
                clear hK hD1 i0 i1 i2 i3 i4 i5 i6 i7 hS1 K w1
                refine relSeq_on rfl (fun K hK w1 hS1 hD1 => ?_)
                obtain ⟨⟨i0, i1, i2⟩, i3, ⟨i4, i5, i6⟩, i7⟩ := HXX.out w1 (HSd.out w1 hS1)
                go_simp
                refine ⟨⟨trivial, hS1, Below.refl _ _⟩, hK _ ?_⟩
                clear hK hD1 i0 i1 i2 i3 i4 i5 i6 i7 hS1 K w1
                refine relSeq_on rfl (fun K hK w1 hS1 hD1 => ?_)
                obtain ⟨⟨i0, i1, i2⟩, i3, ⟨i4, i5, i6⟩, i7⟩ := HXX.out w1 (HSd.out w1 hS1)
                go_simp
                refine ⟨⟨trivial, hS1, Below.refl _ _⟩, hK _ ?_⟩
                clear hK hD1 i0 i1 i2 i3 i4 i5 i6 i7 hS1 K w1
                refine relSeq_on rfl (fun K hK w1 hS1 hD1 => ?_)
                obtain ⟨⟨i0, i1, i2⟩, i3, ⟨i4, i5, i6⟩, i7⟩ := HXX.out w1 (HSd.out w1 hS1)
                go_simp
                refine ⟨⟨trivial, hS1, Below.refl _ _⟩, hK _ ?_⟩
                clear hK hD1 i0 i1 i2 i3 i4 i5 i6 i7 hS1 K w1
                refine relSeq_on rfl (fun K hK w1 hS1 hD1 => ?_)
                obtain ⟨⟨i0, i1, i2⟩, i3, ⟨i4, i5, i6⟩, i7⟩ := HXX.out w1 (HSd.out w1 hS1)
                go_simp
                refine ⟨⟨trivial, hS1, Below.refl _ _⟩, hK _ ?_⟩
                clear hK hD1 i0 i1 i2 i3 i4 i5 i6 i7 hS1 K w1
                refine relSeq_on rfl (fun K hK w1 hS1 hD1 => ?_)
                go_simp
                refine ⟨(C3.out w1).mono fun e w2 he => ⟨_, he.1, rfl, HSn.out _ _ hS1 he.2, he.2⟩, fun v hv => ?_⟩
                obtain ⟨_, _, hv⟩ := hv.out
                obtain rfl : v = .bool true := hv
                refine hK _ ?_
                clear hK hD1 hS1 K w1 hv
                refine relSeq_on rfl (fun K hK w1 hS1 hD1 => ?_)
                obtain ⟨⟨i0, i1, i2⟩, i3, ⟨i4, i5, i6⟩, i7⟩ := HXX.out w1 (HSd.out w1 hS1)
                go_simp
                refine ⟨⟨trivial, hS1, Below.refl _ _⟩, hK _ ?_⟩
                clear hK hD1 i0 i1 i2 i3 i4 i5 i6 i7 hS1 K w1
                refine relSeq_nil ?_
                intro listed Z2 hS2 hF2 hl2
                have HZ := Lib.hid (HSd.out Z2 hS2)
                clear hF2 hl2 HSd HSn hS2 C3 HXX hd1 hd2 hq
                replace HFW := Lib.hid (HFW.out.below HZ.out)
                replace HB14 := Lib.hid (HB14.out.below HZ.out HB14.out.lt)
                replace HB15 := Lib.hid (HB15.out.below HZ.out HB15.out.lt)
                clear HZ
                go_upto_region 28 with fail
                obtain ⟨S, hS⟩ : ∃ S : World → Prop, S = gvS w b3 b7 (b7 + 1) q14 q15 C I (fun j => if j = m then ⟨T + 1, m, Q + 1⟩ else I j) G ⟨T + 1, m, Q + 1⟩ ⟨m, T + 1, Q + 1⟩ := ⟨_, rfl⟩
                have HSS : Hid (∀ Y, S Y → gvS w b3 b7 (b7 + 1) q14 q15 C I (fun j => if j = m then ⟨T + 1, m, Q + 1⟩ else I j) G ⟨T + 1, m, Q + 1⟩ ⟨m, T + 1, Q + 1⟩ Y) := by intro Y hY; rw [hS] at hY; exact hY
                have HSi : Hid (∀ Y, gvS w b3 b7 (b7 + 1) q14 q15 C I (fun j => if j = m then ⟨T + 1, m, Q + 1⟩ else I j) G ⟨T + 1, m, Q + 1⟩ ⟨m, T + 1, Q + 1⟩ Y → S Y) := by intro Y hY; rw [hS]; exact hY
                have HSx : Hid (∀ Y, S Y → Y.cell? ⟨q15, 0, none⟩ = some (.int .u64 (T + 1)) ∧ Y.cell? ⟨q15, 1, none⟩ = some (.int .i64 m) ∧ Y.cell? ⟨q15, 2, none⟩ = some (.int .u64 (Q + 1)) ∧ Y.cell? ⟨q14, 0, none⟩ = some (.int .i64 m) ∧ Y.cell? ⟨q14, 1, none⟩ = some (.int .u64 (T + 1)) ∧ Y.cell? ⟨q14, 2, none⟩ = some (.int .u64 (Q + 1))) := fun Y hY => by
                  obtain ⟨k15, k14, _⟩ := HSS.out Y hY
                  exact ⟨k15.cell 0, k15.cell 1, k15.cell 2, k14.cell 0, k14.cell 1, k14.cell 2⟩
                have hS0 : S Z2.drew := HSi.out _ ⟨HB15.out.drew, HB14.out.drew, .inl HFW.out.mp.drew, .inl HFW.out.ls.drew, HFW.out.ck.drew, HFW.out.hb.drew⟩
                have HO : Hid (w.heap.size ≤ b3 ∧ b3 < b7) := ⟨HFW.out.o3, HFW.out.o7⟩
                clear hS HB14 HB15 HFW
                refine Rely.wp_region 10 S (gvF b7 (b7 + 1) G ⟨T + 1, m, Q + 1⟩ (fun j => if j = m then ⟨T + 1, m, Q + 1⟩ else I j)) (gvR (b7 + 1)) rfl (by kernel_rfl) (by kernel_rfl) (by kernel_rfl) (by kernel_rfl) [6, 8, 10] (by kernel_rfl) gv_no (gv_stab (by kernel_rfl) (Nat.lt_succ_self _)) hS0 ?_
                clear hS0
                simp only [List.take_succ_cons, List.take_zero, List.drop_succ_cons, List.drop_zero]
                refine Rely.relSeq_on rfl (fun K hK w1 hS1 hD1 => ?_)
                obtain ⟨i0, i1, i2, i3, i4, i5⟩ := HSx.out w1 hS1
                go_simp
                refine ⟨⟨trivial, hS1, rfl⟩, hK _ ?_⟩
                clear hK hD1 i0 i1 i2 i3 i4 i5 hS1 K w1
                refine Rely.relSeq_on rfl (fun K hK w1 hS1 hD1 => ?_)
                obtain ⟨i0, i1, i2, i3, i4, i5⟩ := HSx.out w1 hS1
                go_simp
                refine ⟨⟨trivial, hS1, rfl⟩, hK _ ?_⟩
                clear hK hD1 i0 i1 i2 i3 i4 i5 hS1 K w1
                refine Rely.relSeq_on rfl (fun K hK w1 hS1 hD1 => ?_)
                obtain ⟨i0, i1, i2, i3, i4, i5⟩ := HSx.out w1 hS1
                go_simp
                refine ⟨⟨trivial, hS1, rfl⟩, hK _ ?_⟩
                clear hK hD1 i0 i1 i2 i3 i4 i5 hS1 K w1
                refine Rely.relSeq_on rfl (fun K hK w1 hS1 hD1 => ?_)
                obtain ⟨i0, i1, i2, i3, i4, i5⟩ := HSx.out w1 hS1
                go_simp
                refine ⟨⟨trivial, hS1, rfl⟩, hK _ ?_⟩
                clear hK hD1 i0 i1 i2 i3 i4 i5 hS1 K w1
                refine Rely.relSeq_on rfl (fun K hK w1 hS1 hD1 => ?_)
                obtain ⟨i0, i1, i2, i3, i4, i5⟩ := HSx.out w1 hS1
                go_simp
                refine ⟨⟨trivial, hS1, rfl⟩, hK _ ?_⟩
                clear hK hD1 i0 i1 i2 i3 i4 i5 hS1 K w1
                refine Rely.relSeq_on rfl (fun K hK w1 hS1 hD1 => ?_)
                obtain ⟨i0, i1, i2, i3, i4, i5⟩ := HSx.out w1 hS1
                go_simp
                refine ⟨⟨trivial, hS1, rfl⟩, hK _ ?_⟩
                clear hK hD1 i0 i1 i2 i3 i4 i5 hS1 K w1
                refine Rely.relSeq_on rfl (fun K hK w1 hS1 hD1 => ?_)
                obtain ⟨k15, k14, km, ki, kc, kb⟩ := HSS.out w1 hS1
                obtain ⟨Y', hrun, hg, hgr⟩ := HPUT.out w1 km
                refine Rely.step_mapUpdate 58 (.tmp 152) (.tmp 153) (.const (.int .i64 1)) rfl _ _ _ rfl rfl rfl hrun ⟨hg, HSi.out _ ⟨k15.kept hgr (by have := N15.out; simp; omega), k14.kept hgr (by have := N14.out; simp; omega), .inr hg, ki.imp (fun h => h.kept hgr (by simp)) (fun h => h.kept hgr (by simp)), kc.kept hgr (by have := HO.out.2; simp; omega), kb.grown hgr kb.size (fun j e => by cases e; have := HO.out; omega)⟩, trivial⟩ (hK _ ?_)
                clear hK hD1 hS1 K k15 k14 km ki kc kb hrun hg hgr w1
                refine Rely.relSeq_on rfl (fun K hK w1 hS1 hD1 => ?_)
                obtain ⟨i0, i1, i2, i3, i4, i5⟩ := HSx.out w1 hS1
                go_simp
                refine ⟨⟨trivial, hS1, rfl⟩, hK _ ?_⟩
                clear hK hD1 i0 i1 i2 i3 i4 i5 hS1 K w1
                refine Rely.relSeq_on rfl (fun K hK w1 hS1 hD1 => ?_)
                obtain ⟨k15, k14, km, ki, kc, kb⟩ := HSS.out w1 hS1
                have hth : w1.there (b7 + 1) (m * 3) 3 := ki.elim (fun h => h.there3 (by show m * 3 + 3 ≤ 27; omega)) (fun h => h.there3 (by show m * 3 + 3 ≤ 27; omega))
                have hnew : Blk (w1.setCells (b7 + 1) (m * 3) [.int .u64 (T + 1), .int .i64 m, .int .u64 (Q + 1)]) (b7 + 1) 59 (idArr fun j => if j = m then ⟨T + 1, m, Q + 1⟩ else I j) := by
                  rcases ki with h | h
                  · have := h.set3 (m * 3) (.int .u64 (T + 1)) (.int .i64 m) (.int .u64 (Q + 1))
                    rwa [idArr_set I (show m < 9 by omega) ⟨T + 1, m, Q + 1⟩] at this
                  · have := h.set3 (m * 3) (.int .u64 (T + 1)) (.int .i64 m) (.int .u64 (Q + 1))
                    rw [idArr_set _ (show m < 9 by omega) ⟨T + 1, m, Q + 1⟩] at this
                    rwa [show (fun j => if j = m then (⟨T + 1, m, Q + 1⟩ : Idn) else if j = m then ⟨T + 1, m, Q + 1⟩ else I j) = (fun j => if j = m then ⟨T + 1, m, Q + 1⟩ else I j) from by funext j; split <;> rfl] at this
                have hoth : ∀ j, j ≠ b7 + 1 → (w1.setCells (b7 + 1) (m * 3) [.int .u64 (T + 1), .int .i64 m, .int .u64 (Q + 1)]).heap[j]? = w1.heap[j]? := fun j hj => by
                  show ((((w1.setCell _ _).setCell _ _).setCell _ _)).heap[j]? = _
                  rw [heap_setCell_other _ _ _ _ hj, heap_setCell_other _ _ _ _ hj, heap_setCell_other _ _ _ _ hj]
                have hgv : ∀ G', Given b7 G' w1 → Given b7 G' (w1.setCells (b7 + 1) (m * 3) [.int .u64 (T + 1), .int .i64 m, .int .u64 (Q + 1)]) := fun G' h => by
                  obtain ⟨x, hx, es, clock, h1, h2⟩ := h
                  exact ⟨x, hx, es, clock, (hoth b7 (by omega)).trans h1, h2⟩
                refine Rely.step_store 27 (.tmp 158) (.tmp 156) rfl ⟨b7 + 1, m * 3, none⟩ (.agg #[.int .u64 (T + 1), .int .i64 m, .int .u64 (Q + 1)]) rfl rfl (run_storeVar_mid w1 (b7 + 1) (m * 3) 27 #[.int .u64 (T + 1), .int .i64 m, .int .u64 (Q + 1)] hth (by kernel_rfl) (by simp [Value.oneCell'])) ⟨hnew, HSi.out _ ⟨k15.set3_other (by have := N15.out; omega) _ _ _ _, k14.set3_other (by have := N14.out; omega) _ _ _ _, km.imp (hgv _) (hgv _), .inr hnew, kc.set3_other (by have := HO.out.2; omega) _ _ _ _, below_set3 kb (by have := HO.out; omega) _ _ _ _⟩, hoth⟩ (hK _ ?_)
                clear hK hD1 hS1 K k15 k14 km ki kc kb hth hnew hoth hgv w1
                refine Rely.relSeq_on rfl (fun K hK w1 hS1 hD1 => ?_)
                obtain ⟨i0, i1, i2, i3, i4, i5⟩ := HSx.out w1 hS1
                go_simp
                refine ⟨⟨trivial, hS1, rfl⟩, hK _ ?_⟩
                clear hK hD1 i0 i1 i2 i3 i4 i5 hS1 K w1
                refine Rely.relSeq_nil ?_
                intro listed Z3 hSZ hFZ hlZ
                have HFW : Hid (FrG w (some ⟨g, off, none⟩) n L b3 b7 (b7 + 1) C (fun j => if j = m then ⟨T + 1, m, Q + 1⟩ else I j) (G ++ [⟨T + 1, m, Q + 1⟩]) Z3) := by
                  obtain ⟨k15, k14, km, ki, kc, kb⟩ := HSS.out Z3 hSZ
                  exact ⟨HS.out.below kb, kb, kc, hFZ.2 8 _ rfl rfl (hlZ 8 (by omega)), hFZ.2 6 _ rfl rfl (hlZ 6 (by omega)), HO.out.1, HO.out.2, Nat.lt_succ_self _⟩
                clear hSZ hFZ hlZ HSS HSi HSx HPUT N14 N15 HO HIm HQ
                obtain ⟨y0, y1, y2⟩ := clkArr_get C (show m < 9 by omega)
                rw [HCm.out] at y0 y1 y2
                have i0 := (HFW.out.ck.cell (m * 3)).trans y0
                have i1 := (HFW.out.ck.cell (m * 3 + 1)).trans y1
                have i2 := (HFW.out.ck.cell (m * 3 + 2)).trans y2
                have f0 := HFW.out.ck.frozen (m * 3)
                have f1 := HFW.out.ck.frozen (m * 3 + 1)
                have f2 := HFW.out.ck.frozen (m * 3 + 2)
                clear y0 y1 y2
                have HF' : Hid (FrG w (some ⟨g, off, none⟩) n L b3 b7 (b7 + 1) (fun j => if j = m then ⟨m, T + 1, Q + 1⟩ else C j) (fun j => if j = m then ⟨T + 1, m, Q + 1⟩ else I j) (G ++ [⟨T + 1, m, Q + 1⟩]) (((Z3.setCell ⟨b3, m * 3, none⟩ (.int .i64 m)).setCell ⟨b3, m * 3 + 1, none⟩ (.int .u64 (T + 1))).setCell ⟨b3, m * 3 + 2, none⟩ (.int .u64 (Q + 1)))) := HFW.out.setC HS.out (show m < 9 by omega) ⟨m, T + 1, Q + 1⟩
                clear HFW HCm
                go_wp2_with fail
                go_roundw
                case rel => exact ⟨k + 1, _, _, _, by omega, by omega, by go_num, HF', HGI⟩
                case measure => simp [RowKit.intOf] <;> omega
              · have hd2 : decide (0 < Q) = false := by simpa using hq
                refine wp_region_held_rel 12 S (fun _ _ _ => True) rfl (by kernel_rfl) (by kernel_rfl) (by kernel_rfl) (fun _ _ _ _ _ h => h) hS0 ?_
                clear hS0
                simp only [List.take_succ_cons, List.take_zero, List.drop_succ_cons, List.drop_zero]
                refine relSeq_on rfl (fun K hK w1 hS1 hD1 => ?_)
                obtain ⟨⟨i0, i1, i2⟩, i3, ⟨i4, i5, i6⟩, i7⟩ := HXX.out w1 (HSd.out w1 hS1)
                go_simp
                refine ⟨⟨trivial, hS1, Below.refl _ _⟩, hK _ ?_⟩
                clear hK hD1 i0 i1 i2 i3 i4 i5 i6 i7 hS1 K w1
                refine relSeq_on rfl (fun K hK w1 hS1 hD1 => ?_)
                obtain ⟨⟨i0, i1, i2⟩, i3, ⟨i4, i5, i6⟩, i7⟩ := HXX.out w1 (HSd.out w1 hS1)
                go_simp
                refine ⟨⟨trivial, hS1, Below.refl _ _⟩, hK _ ?_⟩
                clear hK hD1 i0 i1 i2 i3 i4 i5 i6 i7 hS1 K w1
                refine relSeq_on rfl (fun K hK w1 hS1 hD1 => ?_)
                obtain ⟨⟨i0, i1, i2⟩, i3, ⟨i4, i5, i6⟩, i7⟩ := HXX.out w1 (HSd.out w1 hS1)
                go_simp
                refine ⟨⟨trivial, hS1, Below.refl _ _⟩, hK _ ?_⟩
                clear hK hD1 i0 i1 i2 i3 i4 i5 i6 i7 hS1 K w1
                refine relSeq_on rfl (fun K hK w1 hS1 hD1 => ?_)
                obtain ⟨⟨i0, i1, i2⟩, i3, ⟨i4, i5, i6⟩, i7⟩ := HXX.out w1 (HSd.out w1 hS1)
                go_simp
                refine ⟨⟨trivial, hS1, Below.refl _ _⟩, hK _ ?_⟩
                clear hK hD1 i0 i1 i2 i3 i4 i5 i6 i7 hS1 K w1
                refine relSeq_on rfl (fun K hK w1 hS1 hD1 => ?_)
                obtain ⟨⟨i0, i1, i2⟩, i3, ⟨i4, i5, i6⟩, i7⟩ := HXX.out w1 (HSd.out w1 hS1)
                go_simp
                refine ⟨⟨trivial, hS1, Below.refl _ _⟩, hK _ ?_⟩
                clear hK hD1 i0 i1 i2 i3 i4 i5 i6 i7 hS1 K w1
                refine relSeq_on rfl (fun K hK w1 hS1 hD1 => ?_)
                obtain ⟨⟨i0, i1, i2⟩, i3, ⟨i4, i5, i6⟩, i7⟩ := HXX.out w1 (HSd.out w1 hS1)
                go_simp
                refine ⟨⟨trivial, hS1, Below.refl _ _⟩, hK _ ?_⟩
                clear hK hD1 i0 i1 i2 i3 i4 i5 i6 i7 hS1 K w1
                refine relSeq_off rfl (fun _ _ => trivial) (fun K hK => hK _ ?_)
                clear hK K
                refine relSeq_off rfl (fun _ _ => trivial) (fun K hK => hK _ ?_)
                clear hK K
                refine relSeq_off rfl (fun _ _ => trivial) (fun K hK => hK _ ?_)
                clear hK K
                refine relSeq_off rfl (fun _ _ => trivial) (fun K hK => hK _ ?_)
                clear hK K
                refine relSeq_off rfl (fun _ _ => trivial) (fun K hK => hK _ ?_)
                clear hK K
                refine relSeq_off rfl (fun _ _ => trivial) (fun K hK => hK _ ?_)
                clear hK K
                refine relSeq_nil ?_
                intro listed Z2 hS2 hF2 hl2
                have HZ := Lib.hid (HSd.out Z2 hS2)
                clear hF2 hl2 HSd HSn hS2 C3 HXX hd1 hd2 hq
                replace HFW := Lib.hid (HFW.out.below HZ.out)
                replace HB14 := Lib.hid (HB14.out.below HZ.out HB14.out.lt)
                replace HB15 := Lib.hid (HB15.out.below HZ.out HB15.out.lt)
                clear HZ
                go_upto_region 28 with fail
                obtain ⟨S, hS⟩ : ∃ S : World → Prop, S = gvS w b3 b7 (b7 + 1) q14 q15 C I (fun j => if j = m then ⟨T + 1, m, Q + 1⟩ else I j) G ⟨T + 1, m, Q + 1⟩ ⟨m, T + 1, Q + 1⟩ := ⟨_, rfl⟩
                have HSS : Hid (∀ Y, S Y → gvS w b3 b7 (b7 + 1) q14 q15 C I (fun j => if j = m then ⟨T + 1, m, Q + 1⟩ else I j) G ⟨T + 1, m, Q + 1⟩ ⟨m, T + 1, Q + 1⟩ Y) := by intro Y hY; rw [hS] at hY; exact hY
                have HSi : Hid (∀ Y, gvS w b3 b7 (b7 + 1) q14 q15 C I (fun j => if j = m then ⟨T + 1, m, Q + 1⟩ else I j) G ⟨T + 1, m, Q + 1⟩ ⟨m, T + 1, Q + 1⟩ Y → S Y) := by intro Y hY; rw [hS]; exact hY
                have HSx : Hid (∀ Y, S Y → Y.cell? ⟨q15, 0, none⟩ = some (.int .u64 (T + 1)) ∧ Y.cell? ⟨q15, 1, none⟩ = some (.int .i64 m) ∧ Y.cell? ⟨q15, 2, none⟩ = some (.int .u64 (Q + 1)) ∧ Y.cell? ⟨q14, 0, none⟩ = some (.int .i64 m) ∧ Y.cell? ⟨q14, 1, none⟩ = some (.int .u64 (T + 1)) ∧ Y.cell? ⟨q14, 2, none⟩ = some (.int .u64 (Q + 1))) := fun Y hY => by
                  obtain ⟨k15, k14, _⟩ := HSS.out Y hY
                  exact ⟨k15.cell 0, k15.cell 1, k15.cell 2, k14.cell 0, k14.cell 1, k14.cell 2⟩
                have hS0 : S Z2.drew := HSi.out _ ⟨HB15.out.drew, HB14.out.drew, .inl HFW.out.mp.drew, .inl HFW.out.ls.drew, HFW.out.ck.drew, HFW.out.hb.drew⟩
                have HO : Hid (w.heap.size ≤ b3 ∧ b3 < b7) := ⟨HFW.out.o3, HFW.out.o7⟩
                clear hS HB14 HB15 HFW
                refine Rely.wp_region 10 S (gvF b7 (b7 + 1) G ⟨T + 1, m, Q + 1⟩ (fun j => if j = m then ⟨T + 1, m, Q + 1⟩ else I j)) (gvR (b7 + 1)) rfl (by kernel_rfl) (by kernel_rfl) (by kernel_rfl) (by kernel_rfl) [6, 8, 10] (by kernel_rfl) gv_no (gv_stab (by kernel_rfl) (Nat.lt_succ_self _)) hS0 ?_
                clear hS0
                simp only [List.take_succ_cons, List.take_zero, List.drop_succ_cons, List.drop_zero]
                refine Rely.relSeq_on rfl (fun K hK w1 hS1 hD1 => ?_)
                obtain ⟨i0, i1, i2, i3, i4, i5⟩ := HSx.out w1 hS1
                go_simp
                refine ⟨⟨trivial, hS1, rfl⟩, hK _ ?_⟩
                clear hK hD1 i0 i1 i2 i3 i4 i5 hS1 K w1
                refine Rely.relSeq_on rfl (fun K hK w1 hS1 hD1 => ?_)
                obtain ⟨i0, i1, i2, i3, i4, i5⟩ := HSx.out w1 hS1
                go_simp
                refine ⟨⟨trivial, hS1, rfl⟩, hK _ ?_⟩
                clear hK hD1 i0 i1 i2 i3 i4 i5 hS1 K w1
                refine Rely.relSeq_on rfl (fun K hK w1 hS1 hD1 => ?_)
                obtain ⟨i0, i1, i2, i3, i4, i5⟩ := HSx.out w1 hS1
                go_simp
                refine ⟨⟨trivial, hS1, rfl⟩, hK _ ?_⟩
                clear hK hD1 i0 i1 i2 i3 i4 i5 hS1 K w1
                refine Rely.relSeq_on rfl (fun K hK w1 hS1 hD1 => ?_)
                obtain ⟨i0, i1, i2, i3, i4, i5⟩ := HSx.out w1 hS1
                go_simp
                refine ⟨⟨trivial, hS1, rfl⟩, hK _ ?_⟩
                clear hK hD1 i0 i1 i2 i3 i4 i5 hS1 K w1
                refine Rely.relSeq_on rfl (fun K hK w1 hS1 hD1 => ?_)
                obtain ⟨i0, i1, i2, i3, i4, i5⟩ := HSx.out w1 hS1
                go_simp
                refine ⟨⟨trivial, hS1, rfl⟩, hK _ ?_⟩
                clear hK hD1 i0 i1 i2 i3 i4 i5 hS1 K w1
                refine Rely.relSeq_on rfl (fun K hK w1 hS1 hD1 => ?_)
                obtain ⟨i0, i1, i2, i3, i4, i5⟩ := HSx.out w1 hS1
                go_simp
                refine ⟨⟨trivial, hS1, rfl⟩, hK _ ?_⟩
                clear hK hD1 i0 i1 i2 i3 i4 i5 hS1 K w1
                refine Rely.relSeq_on rfl (fun K hK w1 hS1 hD1 => ?_)
                obtain ⟨k15, k14, km, ki, kc, kb⟩ := HSS.out w1 hS1
                obtain ⟨Y', hrun, hg, hgr⟩ := HPUT.out w1 km
                refine Rely.step_mapUpdate 58 (.tmp 152) (.tmp 153) (.const (.int .i64 1)) rfl _ _ _ rfl rfl rfl hrun ⟨hg, HSi.out _ ⟨k15.kept hgr (by have := N15.out; simp; omega), k14.kept hgr (by have := N14.out; simp; omega), .inr hg, ki.imp (fun h => h.kept hgr (by simp)) (fun h => h.kept hgr (by simp)), kc.kept hgr (by have := HO.out.2; simp; omega), kb.grown hgr kb.size (fun j e => by cases e; have := HO.out; omega)⟩, trivial⟩ (hK _ ?_)
                clear hK hD1 hS1 K k15 k14 km ki kc kb hrun hg hgr w1
                refine Rely.relSeq_on rfl (fun K hK w1 hS1 hD1 => ?_)
                obtain ⟨i0, i1, i2, i3, i4, i5⟩ := HSx.out w1 hS1
                go_simp
                refine ⟨⟨trivial, hS1, rfl⟩, hK _ ?_⟩
                clear hK hD1 i0 i1 i2 i3 i4 i5 hS1 K w1
                refine Rely.relSeq_on rfl (fun K hK w1 hS1 hD1 => ?_)
                obtain ⟨k15, k14, km, ki, kc, kb⟩ := HSS.out w1 hS1
                have hth : w1.there (b7 + 1) (m * 3) 3 := ki.elim (fun h => h.there3 (by show m * 3 + 3 ≤ 27; omega)) (fun h => h.there3 (by show m * 3 + 3 ≤ 27; omega))
                have hnew : Blk (w1.setCells (b7 + 1) (m * 3) [.int .u64 (T + 1), .int .i64 m, .int .u64 (Q + 1)]) (b7 + 1) 59 (idArr fun j => if j = m then ⟨T + 1, m, Q + 1⟩ else I j) := by
                  rcases ki with h | h
                  · have := h.set3 (m * 3) (.int .u64 (T + 1)) (.int .i64 m) (.int .u64 (Q + 1))
                    rwa [idArr_set I (show m < 9 by omega) ⟨T + 1, m, Q + 1⟩] at this
                  · have := h.set3 (m * 3) (.int .u64 (T + 1)) (.int .i64 m) (.int .u64 (Q + 1))
                    rw [idArr_set _ (show m < 9 by omega) ⟨T + 1, m, Q + 1⟩] at this
                    rwa [show (fun j => if j = m then (⟨T + 1, m, Q + 1⟩ : Idn) else if j = m then ⟨T + 1, m, Q + 1⟩ else I j) = (fun j => if j = m then ⟨T + 1, m, Q + 1⟩ else I j) from by funext j; split <;> rfl] at this
                have hoth : ∀ j, j ≠ b7 + 1 → (w1.setCells (b7 + 1) (m * 3) [.int .u64 (T + 1), .int .i64 m, .int .u64 (Q + 1)]).heap[j]? = w1.heap[j]? := fun j hj => by
                  show ((((w1.setCell _ _).setCell _ _).setCell _ _)).heap[j]? = _
                  rw [heap_setCell_other _ _ _ _ hj, heap_setCell_other _ _ _ _ hj, heap_setCell_other _ _ _ _ hj]
                have hgv : ∀ G', Given b7 G' w1 → Given b7 G' (w1.setCells (b7 + 1) (m * 3) [.int .u64 (T + 1), .int .i64 m, .int .u64 (Q + 1)]) := fun G' h => by
                  obtain ⟨x, hx, es, clock, h1, h2⟩ := h
                  exact ⟨x, hx, es, clock, (hoth b7 (by omega)).trans h1, h2⟩
                refine Rely.step_store 27 (.tmp 158) (.tmp 156) rfl ⟨b7 + 1, m * 3, none⟩ (.agg #[.int .u64 (T + 1), .int .i64 m, .int .u64 (Q + 1)]) rfl rfl (run_storeVar_mid w1 (b7 + 1) (m * 3) 27 #[.int .u64 (T + 1), .int .i64 m, .int .u64 (Q + 1)] hth (by kernel_rfl) (by simp [Value.oneCell'])) ⟨hnew, HSi.out _ ⟨k15.set3_other (by have := N15.out; omega) _ _ _ _, k14.set3_other (by have := N14.out; omega) _ _ _ _, km.imp (hgv _) (hgv _), .inr hnew, kc.set3_other (by have := HO.out.2; omega) _ _ _ _, below_set3 kb (by have := HO.out; omega) _ _ _ _⟩, hoth⟩ (hK _ ?_)
                clear hK hD1 hS1 K k15 k14 km ki kc kb hth hnew hoth hgv w1
                refine Rely.relSeq_on rfl (fun K hK w1 hS1 hD1 => ?_)
                obtain ⟨i0, i1, i2, i3, i4, i5⟩ := HSx.out w1 hS1
                go_simp
                refine ⟨⟨trivial, hS1, rfl⟩, hK _ ?_⟩
                clear hK hD1 i0 i1 i2 i3 i4 i5 hS1 K w1
                refine Rely.relSeq_nil ?_
                intro listed Z3 hSZ hFZ hlZ
                have HFW : Hid (FrG w (some ⟨g, off, none⟩) n L b3 b7 (b7 + 1) C (fun j => if j = m then ⟨T + 1, m, Q + 1⟩ else I j) (G ++ [⟨T + 1, m, Q + 1⟩]) Z3) := by
                  obtain ⟨k15, k14, km, ki, kc, kb⟩ := HSS.out Z3 hSZ
                  exact ⟨HS.out.below kb, kb, kc, hFZ.2 8 _ rfl rfl (hlZ 8 (by omega)), hFZ.2 6 _ rfl rfl (hlZ 6 (by omega)), HO.out.1, HO.out.2, Nat.lt_succ_self _⟩
                clear hSZ hFZ hlZ HSS HSi HSx HPUT N14 N15 HO HIm HQ
                obtain ⟨y0, y1, y2⟩ := clkArr_get C (show m < 9 by omega)
                rw [HCm.out] at y0 y1 y2
                have i0 := (HFW.out.ck.cell (m * 3)).trans y0
                have i1 := (HFW.out.ck.cell (m * 3 + 1)).trans y1
                have i2 := (HFW.out.ck.cell (m * 3 + 2)).trans y2
                have f0 := HFW.out.ck.frozen (m * 3)
                have f1 := HFW.out.ck.frozen (m * 3 + 1)
                have f2 := HFW.out.ck.frozen (m * 3 + 2)
                clear y0 y1 y2
                have HF' : Hid (FrG w (some ⟨g, off, none⟩) n L b3 b7 (b7 + 1) (fun j => if j = m then ⟨m, T + 1, Q + 1⟩ else C j) (fun j => if j = m then ⟨T + 1, m, Q + 1⟩ else I j) (G ++ [⟨T + 1, m, Q + 1⟩]) (((Z3.setCell ⟨b3, m * 3, none⟩ (.int .i64 m)).setCell ⟨b3, m * 3 + 1, none⟩ (.int .u64 (T + 1))).setCell ⟨b3, m * 3 + 2, none⟩ (.int .u64 (Q + 1)))) := HFW.out.setC HS.out (show m < 9 by omega) ⟨m, T + 1, Q + 1⟩
                clear HFW HCm
                go_wp2_with fail
                go_roundw
                case rel => exact ⟨k + 1, _, _, _, by omega, by omega, by go_num, HF', HGI⟩
                case measure => simp [RowKit.intOf] <;> omega
        · go_wp2_with fail
          go_ret
          exact ⟨rfl, HF.out.hb⟩
end Go.Proofs.YtoiaecfiinkmjaaDoor
