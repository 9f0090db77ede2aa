/- gessolaw11.IdentTexts returns true. -/
import Derived.Test.YtoiaecfiinkmjaaDoorWakes11
import Derived.Test.YtoiaecfiinkmjaaDoorRRead
import Derived.Test.YtoiaecfiinkmjaaDoorOpenAny
import Derived.Deep.DeepCutAuto
namespace Go.Proofs.YtoiaecfiinkmjaaDoor
open Go.RowKit Go.Shelf Go.Sort

/-- what is known through the loops. -/
structure FrT (w : World) (a : Option Addr) (n : Nat) (L : List Idn) (b : Option Addr) (m : Nat) (M : List ByteArray) (X : World) : Prop where
  ids : RowS encId 3 X a n L
  strs : RowS encS 1 X b m M
  tab : Tab X
  hb : Below w.heap.size w X
theorem FrT.below {w W W' : World} {a b : Option Addr} {n m : Nat} {L : List Idn} {M : List ByteArray} (h : FrT w a n L b m M W) (hb : Below W.heap.size W W') : FrT w a n L b m M W' :=
  ⟨h.ids.below hb, h.strs.below hb, tab_below h.tab hb, h.hb.trans (hb.mono h.hb.size)⟩
theorem rowElem {α : Type} {enc : α → List Value} {k : Nat} {W : World} {a : Option Addr} {n : Nat} {L : List α} (h : RowS enc k W a n L) {j : Nat} (hj : j < n) :
    ∃ b off x, a = some ⟨b, off, none⟩ ∧ L[j]? = some x ∧ b < W.heap.size ∧ ∀ i v, (enc x)[i]? = some v → W.cell? ⟨b, off + j * k + i, none⟩ = some v := by
  have hL : j < L.length := by have := h.1; omega
  obtain ⟨b, off, ha, hb, hv⟩ := h.2.2.resolve_left (fun e => by rw [e] at hL; simp at hL)
  exact ⟨b, off, L[j], ha, List.getElem?_eq_getElem hL, hb, fun i v hi => hv j _ (List.getElem?_eq_getElem hL) i v hi⟩

set_option maxRecDepth 100000 in
set_option maxHeartbeats 4000000 in
theorem texts_any (a : Option Addr) (n c : Nat) (L : List Idn) (b : Option Addr) (m d : Nat) (M : List ByteArray) (w : World) (hS : RowS encId 3 w a n L) (_hnc : n ≤ c) (hin : ∀ x ∈ L, x.In) (hM : RowS encS 1 w b m M) (_hmd : m ≤ d) (_hsz : ∀ s ∈ M, s.size ≤ maxLen) (htab : Tab w) :
    Calls Tryd.prog 3 #[.slice a n c, .slice b m d] w (Ret (.bool true) w) := by
  have HF : Hid (FrT w a n L b m M w) := ⟨hS, hM, htab, Below.refl _ _⟩
  have HIN := Lib.hid hin
  have hn64 : n ≤ 9223372036854775807 := by have h1 := hS.2.1; have h2 := hS.1; omega
  have hm64 : m ≤ 9223372036854775807 := by have h1 := hM.2.1; have h2 := hM.1; omega
  have HSZ := Lib.hid _hsz
  clear hS hin hM htab _hsz _hnc _hmd
  go_enter Tryd.func3, Tryd.ntmps3
  go_wp2_with fail
  refine (wakes_any _ HF.out.tab).mono ?_
  rintro e X ⟨rfl, hb⟩
  replace HF := Lib.hid (HF.out.below hb)
  clear hb
  go_wp2_with fail
  go_loopw [17] (fun i wr => ∃ k : Nat, k ≤ n ∧ i = .int .i64 k ∧ Hid (FrT w a n L b m M wr)) (fun i _ => n - (RowKit.intOf i).toNat)
  case atStart => exact ⟨0, Nat.zero_le _, rfl, HF⟩
  case round =>
    clear HF
    obtain ⟨k, hk, rfl, HF⟩ := hrel
    by_cases hlt : k < n
    · have hkn : (k : Int) < (n : Int) := by omega
      obtain ⟨g, off, x, rfl, hx, hg, hv⟩ := rowElem HF.out.ids hlt
      have hxin := HIN.out x (List.mem_of_getElem? hx)
      have x0 := hv 0 _ rfl
      have x1 := hv 1 _ rfl
      have x2 := hv 2 _ rfl
      clear hv hx hg
      obtain ⟨t, s, q⟩ := x
      obtain ⟨t, rfl⟩ := Int.eq_ofNat_of_zero_le hxin.t0
      obtain ⟨q, rfl⟩ := Int.eq_ofNat_of_zero_le hxin.q0
      have HI : Hid (t < 18446744073709551616 ∧ -9223372036854775808 ≤ s ∧ s ≤ 9223372036854775807 ∧ q < 18446744073709551616) := by
        obtain ⟨_, h1, h2, h3, _, h4⟩ := hxin
        show _ ∧ _
        simp only at h1 h2 h3 h4
        omega
      clear hxin
      simp only [Nat.add_zero] at x0 x1 x2
      have H6 := Lib.hid (Blk.new wr 27 #[.int .u64 t, .int .i64 s, .int .u64 q])
      replace HF := Lib.hid (HF.out.below ((Below.refl _ _).alloc (Nat.le_refl _) (.cells #[.int .u64 t, .int .i64 s, .int .u64 q] 27)))
      go_upto_region 6 with fail
      clear x0 x1 x2
      generalize wr.alloc (.cells #[.int .u64 t, .int .i64 s, .int .u64 q] 27) = W at HF H6 ⊢
      generalize wr.heap.size = p1 at H6 ⊢
      obtain ⟨S, hS⟩ : ∃ S : World → Prop, S = fun Y => Below W.heap.size W Y := ⟨_, rfl⟩
      have HSd : Hid (∀ Y, S Y → Below W.heap.size W Y) := by intro Y hY; rw [hS] at hY; exact hY
      have HSx : Hid (∀ Y, S Y → Y.cell? ⟨p1, 0, none⟩ = some (.int .u64 t) ∧ Y.cell? ⟨p1, 1, none⟩ = some (.int .i64 s) ∧ Y.cell? ⟨p1, 2, none⟩ = some (.int .u64 q)) := fun Y hY => by
        have h := H6.out.below (HSd.out Y hY) H6.out.lt
        exact ⟨h.cell 0, h.cell 1, h.cell 2⟩
      have HSt : Hid (∀ Y, S Y → Tab Y) := fun Y hY => tab_below HF.out.tab (HSd.out Y hY)
      have HSn : Hid (∀ Y Y', S Y → Below Y.heap.size Y Y' → S Y') := by intro Y Y' hY hb; rw [hS] at hY ⊢; exact hY.trans (hb.mono hY.size)
      have hS0 : S W.drew := by rw [hS]; exact (Below.refl _ _).drew
      clear hS
      have C1 := Lib.hid (fun W h => TextId_any t s q HI.out.1 HI.out.2.1 HI.out.2.2.1 HI.out.2.2.2 W h)
      have C2 := Lib.hid (fun W => RText_any t s q HI.out.1 HI.out.2.1 HI.out.2.2.1 HI.out.2.2.2 W)
      generalize textOf t s q = tx at C1 C2
      by_cases h10 : k < 10
      · have hd : decide ((k : Int) < 10) = true := by simp; omega
        refine wp_region_held_rel 8 S (fun k u Y => match k with | 4 => u = strV tx | 6 => u = strV tx | _ => True) rfl (by kernel_rfl) (by kernel_rfl) (by kernel_rfl) (fun _ _ _ _ _ h => h) hS0 ?_
        clear hS0
        simp only [List.take_succ_cons, List.take_zero, List.drop_succ_cons, List.drop_zero]
        refine relSeq_on rfl (fun K hK w1 hS1 hD1 => ?_)
        go_simp
        refine ⟨⟨trivial, hS1, Below.refl _ _⟩, hK _ ?_⟩
        clear hK hD1 hS1 K w1
        refine relSeq_on rfl (fun K hK w1 hS1 hD1 => ?_)
        go_simp
        refine ⟨⟨trivial, hS1, Below.refl _ _⟩, hK _ ?_⟩
        clear hK hD1 hS1 K w1
        refine relSeq_on rfl (fun K hK w1 hS1 hD1 => ?_)
        go_simp
        refine ⟨⟨trivial, hS1, Below.refl _ _⟩, hK _ ?_⟩
        clear hK hD1 hS1 K w1
        refine relSeq_on rfl (fun K hK w1 hS1 hD1 => ?_)
        obtain ⟨i0, i1, i2⟩ := HSx.out w1 hS1
        go_simp
        refine ⟨⟨trivial, hS1, Below.refl _ _⟩, hK _ ?_⟩
        clear hK hD1 i0 i1 i2 hS1 K w1
        refine relSeq_on rfl (fun K hK w1 hS1 hD1 => ?_)
        go_simp
        refine ⟨(C1.out w1 (HSt.out w1 hS1)).mono fun e w2 he => ⟨_, he.1, rfl, HSn.out _ _ hS1 he.2, he.2⟩, fun v hv => ?_⟩
        obtain ⟨_, _, hv⟩ := hv.out
        obtain rfl : v = strV tx := hv
        refine hK _ ?_
        clear hK hD1 hS1 K w1 hv
        refine relSeq_on rfl (fun K hK w1 hS1 hD1 => ?_)
        obtain ⟨i0, i1, i2⟩ := HSx.out w1 hS1
        go_simp
        refine ⟨⟨trivial, hS1, Below.refl _ _⟩, hK _ ?_⟩
        clear hK hD1 i0 i1 i2 hS1 K w1
        refine relSeq_on rfl (fun K hK w1 hS1 hD1 => ?_)
        go_simp
        refine ⟨(C2.out w1).mono fun e w2 he => ⟨_, he.1, rfl, HSn.out _ _ hS1 he.2, he.2⟩, fun v hv => ?_⟩
        obtain ⟨_, _, hv⟩ := hv.out
        obtain rfl : v = strV tx := hv
        refine hK _ ?_
        clear hK hD1 hS1 K w1 hv
        refine relSeq_on rfl (fun K hK w1 hS1 hD1 => ?_)
        go_simp
        refine ⟨⟨trivial, hS1, Below.refl _ _⟩, hK _ ?_⟩
        clear hK hD1 hS1 K w1
        refine relSeq_nil ?_
        intro listed Z hS2 hF2 hl2
        replace HF := Lib.hid (HF.out.below (HSd.out Z hS2))
        clear hF2 hl2 hS2 HSd HSx HSt HSn H6 C1 C2
        go_wp2_with fail
        go_roundw
        case rel => exact ⟨k + 1, by omega, by go_num, HF⟩
        case measure => simp [RowKit.intOf] <;> omega
      · have hd : decide ((k : Int) < 10) = false := by simp; omega
        refine wp_region_held_rel 8 S (fun k u Y => True) rfl (by kernel_rfl) (by kernel_rfl) (by kernel_rfl) (fun _ _ _ _ _ h => h) hS0 ?_
        clear hS0
        simp only [List.take_succ_cons, List.take_zero, List.drop_succ_cons, List.drop_zero]
        refine relSeq_on rfl (fun K hK w1 hS1 hD1 => ?_)
        go_simp
        refine ⟨⟨trivial, hS1, Below.refl _ _⟩, hK _ ?_⟩
        clear hK hD1 hS1 K w1
        refine relSeq_on rfl (fun K hK w1 hS1 hD1 => ?_)
        go_simp
        refine ⟨⟨trivial, hS1, Below.refl _ _⟩, hK _ ?_⟩
        clear hK hD1 hS1 K w1
        refine relSeq_on rfl (fun K hK w1 hS1 hD1 => ?_)
        go_simp
        refine ⟨⟨trivial, hS1, Below.refl _ _⟩, hK _ ?_⟩
        clear hK hD1 hS1 K w1
        refine relSeq_off rfl (fun _ _ => trivial) (fun K hK => hK _ ?_)
        clear hK K
        refine relSeq_off rfl (fun _ _ => trivial) (fun K hK => hK _ ?_)
        clear hK K
        refine relSeq_off rfl (fun _ _ => trivial) (fun K hK => hK _ ?_)
        clear hK K
        refine relSeq_off rfl (fun _ _ => trivial) (fun K hK => hK _ ?_)
        clear hK K
        refine relSeq_off rfl (fun _ _ => trivial) (fun K hK => hK _ ?_)
        clear hK K
        refine relSeq_nil ?_
        intro listed Z hS2 hF2 hl2
        replace HF := Lib.hid (HF.out.below (HSd.out Z hS2))
        clear hF2 hl2 hS2 HSd HSx HSt HSn H6 C1 C2
        go_wp2_with fail
        go_roundw
        case rel => exact ⟨k + 1, by omega, by go_num, HF⟩
        case measure => simp [RowKit.intOf] <;> omega
    · go_wp2_with fail
      go_loopw [34] (fun i wr => ∃ k : Nat, k ≤ m ∧ i = .int .i64 k ∧ Hid (FrT w a n L b m M wr)) (fun i _ => m - (RowKit.intOf i).toNat)
      case atStart => exact ⟨0, Nat.zero_le _, rfl, HF⟩
      case round =>
        clear HF hlt hk
        rename_i hrel
        obtain ⟨k, hk, rfl, HF⟩ := hrel
        by_cases hlt : k < m
        · have hkn : (k : Int) < (m : Int) := by omega
          obtain ⟨g, off, x, rfl, hx, hg, hv⟩ := rowElem HF.out.strs hlt
          have x0 := hv 0 _ rfl
          have hsz := HSZ.out x (List.mem_of_getElem? hx)
          clear hv hx hg
          simp only [Nat.add_zero, Nat.mul_one] at x0
          by_cases h10 : k = 10
          · subst h10
            go_wp2_with fail
            go_ret
            exact ⟨rfl, HF.out.hb⟩
          · have hb10 : ((k : Int) == 10) = false := by rw [beq_eq_false_iff_ne]; omega
            go_wp2_with fail
            have hyl : (x.extract 0 (min (x.size : Int) 70).toNat).size ≤ 70 := by rw [ByteArray.size_extract]; omega
            generalize x.extract 0 (min (x.size : Int) 70).toNat = y at hyl ⊢
            obtain ⟨l, hl, rfl⟩ : ∃ l : List UInt8, l.length ≤ 70 ∧ y = ⟨l.toArray⟩ := ⟨y.data.toList, by rw [Array.length_toList]; exact hyl, rfl⟩
            have HRL := Lib.hid (fun W => RRead_any l (by omega) W)
            have HIL := Lib.hid (fun W h => Read_any ⟨l.toArray⟩ W h)
            have HB := Lib.hid (rread_read l)
            clear hyl x0 hsz
            obtain ⟨⟨⟨t, s, q⟩, ok⟩, hr⟩ : ∃ r, rread l = r := ⟨_, rfl⟩
            cases ok with
            | true =>
              have C1 : Hid (∀ W, Tab W → Calls Tryd.prog 12 #[strV l] W (Ret (.tuple #[idV t s q, .int .i64 0]) W)) := fun W h => by
                have := HIL.out W h
                rwa [show readB (⟨l.toArray⟩ : ByteArray).data.toList = some ⟨t, s, q⟩ by rw [List.toList_toArray, HB.out, hr]; rfl] at this
              have C2 : Hid (∀ W, Calls Tryd.prog 13 #[strV l] W (Ret (.tuple #[idV t s q, .bool true]) W)) := fun W => by
                have := HRL.out W
                rwa [hr] at this
              have he : ∀ w, (binOp .neq 27 (idV t s q) (idV t s q)).run Tryd.prog w = .ok (.bool false) w := fun w => by
                have := neqId ⟨t, s, q⟩ ⟨t, s, q⟩ w
                rwa [(eqId_iff _ _).2 rfl] at this
              clear HRL HIL HB hr
              refine (C1.out _ HF.out.tab).mono ?_
              rintro e W1 ⟨rfl, hb⟩
              replace HF := Lib.hid (HF.out.below hb)
              clear hb C1
              go_upto_region 15 with (refine L_istoreV (.tmp 9) (.tmp 49) (t) (s) (q) rfl rfl (Blk.new _ _ _) ?_)
              have hb : Below W1.heap.size W1 ((W1.alloc (.cells #[.int .u64 0, .int .i64 0, .int .u64 0] 27)).setRow W1.heap.size #[.int .u64 (t), .int .i64 (s), .int .u64 (q)]) := below_setRowK ((Below.refl _ _).alloc (Nat.le_refl _) _) (Nat.le_refl _) _
              have H9 := Lib.hid ((Blk.new W1 27 #[.int .u64 0, .int .i64 0, .int .u64 0]).row #[.int .u64 (t), .int .i64 (s), .int .u64 (q)])
              replace HF := Lib.hid (HF.out.below hb)
              clear hb
              generalize (W1.alloc (.cells #[.int .u64 0, .int .i64 0, .int .u64 0] 27)).setRow W1.heap.size #[.int .u64 (t), .int .i64 (s), .int .u64 (q)] = V1 at HF H9 ⊢
              generalize W1.heap.size = p9 at H9 ⊢
              go_wp2_with fail
              refine (C2.out _).mono ?_
              rintro e W2 ⟨rfl, hb⟩
              replace HF := Lib.hid (HF.out.below hb)
              replace H9 := Lib.hid (H9.out.below hb H9.out.lt)
              clear hb C2
              go_upto_region 16 with (refine L_istoreV (.tmp 11) (.tmp 54) (t) (s) (q) rfl rfl (Blk.new _ _ _) ?_)
              have hb : Below W2.heap.size W2 ((W2.alloc (.cells #[.int .u64 0, .int .i64 0, .int .u64 0] 27)).setRow W2.heap.size #[.int .u64 (t), .int .i64 (s), .int .u64 (q)]) := below_setRowK ((Below.refl _ _).alloc (Nat.le_refl _) _) (Nat.le_refl _) _
              have H11 := Lib.hid ((Blk.new W2 27 #[.int .u64 0, .int .i64 0, .int .u64 0]).row #[.int .u64 (t), .int .i64 (s), .int .u64 (q)])
              have N9' : Hid (p9 < W2.heap.size) := H9.out.lt
              have HFW : Hid (FrT w a n L (some ⟨g, off, none⟩) m M ((((W2.alloc (.cells #[.int .u64 0, .int .i64 0, .int .u64 0] 27)).setRow W2.heap.size #[.int .u64 (t), .int .i64 (s), .int .u64 (q)])).setRow W2.heap.size #[.int .u64 0, .int .i64 0, .int .u64 0])) := HF.out.below (below_setRowK hb (Nat.le_refl _) _)
              replace HF := Lib.hid (HF.out.below hb)
              replace H9 := Lib.hid (H9.out.below hb H9.out.lt)
              clear hb
              generalize (W2.alloc (.cells #[.int .u64 0, .int .i64 0, .int .u64 0] 27)).setRow W2.heap.size #[.int .u64 (t), .int .i64 (s), .int .u64 (q)] = V2 at HF H9 H11 HFW ⊢
              generalize W2.heap.size = p11 at H11 N9' HFW ⊢
              have c0 := H9.out.cell 0
              have c1 := H9.out.cell 1
              have c2 := H9.out.cell 2
              have d0 := H11.out.cell 0
              have d1 := H11.out.cell 1
              have d2 := H11.out.cell 2
              simp at c0 c1 c2 d0 d1 d2
              go_wp2_with fail
              go_roundw
              case rel => exact ⟨k + 1, by omega, by go_num, HF⟩
              case measure => simp [RowKit.intOf] <;> omega
            | false =>
              have C1 : Hid (∀ W, Tab W → Calls Tryd.prog 12 #[strV l] W (Ret (.tuple #[idV 0 0 0, .int .i64 210]) W)) := fun W h => by
                have := HIL.out W h
                rwa [show readB (⟨l.toArray⟩ : ByteArray).data.toList = none by rw [List.toList_toArray, HB.out, hr]; rfl] at this
              have C2 : Hid (∀ W, Calls Tryd.prog 13 #[strV l] W (Ret (.tuple #[idV t s q, .bool false]) W)) := fun W => by
                have := HRL.out W
                rwa [hr] at this
              have he : ∀ w, (binOp .neq 27 (idV 0 0 0) (idV 0 0 0)).run Tryd.prog w = .ok (.bool false) w := fun w => by
                have := neqId ⟨0, 0, 0⟩ ⟨0, 0, 0⟩ w
                rwa [(eqId_iff _ _).2 rfl] at this
              clear HRL HIL HB hr
              refine (C1.out _ HF.out.tab).mono ?_
              rintro e W1 ⟨rfl, hb⟩
              replace HF := Lib.hid (HF.out.below hb)
              clear hb C1
              go_upto_region 15 with (refine L_istoreV (.tmp 9) (.tmp 49) (0) (0) (0) rfl rfl (Blk.new _ _ _) ?_)
              have hb : Below W1.heap.size W1 ((W1.alloc (.cells #[.int .u64 0, .int .i64 0, .int .u64 0] 27)).setRow W1.heap.size #[.int .u64 (0), .int .i64 (0), .int .u64 (0)]) := below_setRowK ((Below.refl _ _).alloc (Nat.le_refl _) _) (Nat.le_refl _) _
              have H9 := Lib.hid ((Blk.new W1 27 #[.int .u64 0, .int .i64 0, .int .u64 0]).row #[.int .u64 (0), .int .i64 (0), .int .u64 (0)])
              replace HF := Lib.hid (HF.out.below hb)
              clear hb
              generalize (W1.alloc (.cells #[.int .u64 0, .int .i64 0, .int .u64 0] 27)).setRow W1.heap.size #[.int .u64 (0), .int .i64 (0), .int .u64 (0)] = V1 at HF H9 ⊢
              generalize W1.heap.size = p9 at H9 ⊢
              go_wp2_with fail
              refine (C2.out _).mono ?_
              rintro e W2 ⟨rfl, hb⟩
              replace HF := Lib.hid (HF.out.below hb)
              replace H9 := Lib.hid (H9.out.below hb H9.out.lt)
              clear hb C2
              go_upto_region 16 with (refine L_istoreV (.tmp 11) (.tmp 54) (t) (s) (q) rfl rfl (Blk.new _ _ _) ?_)
              have hb : Below W2.heap.size W2 ((W2.alloc (.cells #[.int .u64 0, .int .i64 0, .int .u64 0] 27)).setRow W2.heap.size #[.int .u64 (t), .int .i64 (s), .int .u64 (q)]) := below_setRowK ((Below.refl _ _).alloc (Nat.le_refl _) _) (Nat.le_refl _) _
              have H11 := Lib.hid ((Blk.new W2 27 #[.int .u64 0, .int .i64 0, .int .u64 0]).row #[.int .u64 (t), .int .i64 (s), .int .u64 (q)])
              have N9' : Hid (p9 < W2.heap.size) := H9.out.lt
              have HFW : Hid (FrT w a n L (some ⟨g, off, none⟩) m M ((((W2.alloc (.cells #[.int .u64 0, .int .i64 0, .int .u64 0] 27)).setRow W2.heap.size #[.int .u64 (t), .int .i64 (s), .int .u64 (q)])).setRow W2.heap.size #[.int .u64 0, .int .i64 0, .int .u64 0])) := HF.out.below (below_setRowK hb (Nat.le_refl _) _)
              replace HF := Lib.hid (HF.out.below hb)
              replace H9 := Lib.hid (H9.out.below hb H9.out.lt)
              clear hb
              generalize (W2.alloc (.cells #[.int .u64 0, .int .i64 0, .int .u64 0] 27)).setRow W2.heap.size #[.int .u64 (t), .int .i64 (s), .int .u64 (q)] = V2 at HF H9 H11 HFW ⊢
              generalize W2.heap.size = p11 at H11 N9' HFW ⊢
              have c0 := (H9.out.row_other (k := p11) (Nat.ne_of_lt N9'.out) #[.int .u64 0, .int .i64 0, .int .u64 0]).cell 0
              have c1 := (H9.out.row_other (k := p11) (Nat.ne_of_lt N9'.out) #[.int .u64 0, .int .i64 0, .int .u64 0]).cell 1
              have c2 := (H9.out.row_other (k := p11) (Nat.ne_of_lt N9'.out) #[.int .u64 0, .int .i64 0, .int .u64 0]).cell 2
              have d0 := (H11.out.row #[.int .u64 0, .int .i64 0, .int .u64 0]).cell 0
              have d1 := (H11.out.row #[.int .u64 0, .int .i64 0, .int .u64 0]).cell 1
              have d2 := (H11.out.row #[.int .u64 0, .int .i64 0, .int .u64 0]).cell 2
              simp at c0 c1 c2 d0 d1 d2
              go_wp2_with (refine L_istoreV (.tmp 11) (.tmp 58) 0 0 0 rfl rfl H11.out ?_)
              go_roundw
              case rel => exact ⟨k + 1, by omega, by go_num, HFW.out⟩
              case measure => simp [RowKit.intOf] <;> omega
        · go_wp2_with fail
          go_ret
          exact ⟨rfl, HF.out.hb⟩
end Go.Proofs.YtoiaecfiinkmjaaDoor
