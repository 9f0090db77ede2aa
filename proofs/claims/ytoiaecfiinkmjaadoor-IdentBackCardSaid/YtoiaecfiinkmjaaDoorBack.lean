/- gessolaw11.IdentBack returns true. -/
import Derived.Test.YtoiaecfiinkmjaaDoorWakes11
import Derived.Test.YtoiaecfiinkmjaaDoorBackLaw
import Derived.Test.YtoiaecfiinkmjaaDoorRowD
namespace Go.Proofs.YtoiaecfiinkmjaaDoor
open Go.RowKit Go.Shelf Go.Sort Go.ChangeShapes Go.WideShapes Go.ChangeAt

theorem Text_in (i : Idn) (hi : i.In) (W : World) (hT : Tab W) : Calls Tryd.prog 10 #[i.val] W (Ret (strV (textOf i.t.toNat i.s i.q.toNat)) W) := by
  obtain ⟨t, s, q⟩ := i
  obtain ⟨t0, t1, s0, s1, q0, q1⟩ := hi
  simp only at *
  have := TextId_any t.toNat s q.toNat (by omega) s0 s1 (by omega) W hT
  rwa [Int.toNat_of_nonneg t0, Int.toNat_of_nonneg q0] at this
theorem in_ok {i : Idn} (h : i.ok = true) : i.In := by
  have h := (okId_iff _ _ _).1 h
  unfold maxT at h
  exact ⟨by omega, by omega, by omega, by omega, by omega, by omega⟩
theorem Read_l (l : List UInt8) (W : World) (hT : Tab W) : Calls Tryd.prog 12 #[strV l] W (Ret (readV (readB l)) W) := Read_any ⟨l.toArray⟩ W hT

set_option maxRecDepth 100000 in
set_option maxHeartbeats 4000000 in
theorem back_any (i : Idn) (hi : i.In) (l : List UInt8) (w : World) (htab : Tab w) :
    Calls Tryd.prog 4 #[i.val, strV l] w (Ret (.bool true) w) := by
  have I0 := Lib.hid (Blk.new w 27 #[.int .u64 i.t, .int .i64 i.s, .int .u64 i.q])
  have HB : Hid (Below w.heap.size w (w.alloc (.cells #[.int .u64 i.t, .int .i64 i.s, .int .u64 i.q] 27))) := by show Below _ _ _; go_grown
  have HT := Lib.hid htab
  have CT := Lib.hid (fun W hT => Text_in i hi W hT)
  have CR := Lib.hid (fun W hT => Read_l (textOf i.t.toNat i.s i.q.toNat) W hT)
  have CL := Lib.hid (fun W hT => Read_l l W hT)
  rw [read_text i hi.t0 hi.q0] at CR
  have HK : Hid (∀ j : Idn, j.ok = true → ∀ W, Calls Tryd.prog 14 #[j.val] W (Ret (.int .i64 0) W)) := fun j hj W => Check_id_ok _ _ _ hj W
  have HN : Hid (∀ j : Idn, j.ok = false → ∀ W, Calls Tryd.prog 14 #[j.val] W (Ret (.int .i64 210) W)) := fun j hj W => Check_id_bad _ _ _ hj W
  have HO : Hid (∀ j, readB l = some j → j.ok = true ∧ l = textOf j.t.toNat j.s j.q.toNat) := fun j hj => readB_some.1 hj
  generalize textOf i.t.toNat i.s i.q.toNat = r at CT CR
  clear htab hi
  go_enter Tryd.func4, Tryd.ntmps4
  go_wp2_with fail
  refine (wakes_any _ (tab_below HT.out HB.out)).mono ?_
  rintro e W ⟨rfl, hb⟩
  replace I0 := Lib.hid (I0.out.below hb I0.out.lt)
  replace HB := Lib.hid (HB.out.trans (hb.mono HB.out.size))
  clear hb
  have c0 := I0.out.cell 0
  have c1 := I0.out.cell 1
  have c2 := I0.out.cell 2
  simp at c0 c1 c2
  go_wp2_with fail
  refine (CT.out _ (tab_below HT.out HB.out)).mono ?_
  rintro e W1 ⟨rfl, hb⟩
  replace I0 := Lib.hid (I0.out.below hb I0.out.lt)
  replace HB := Lib.hid (HB.out.trans (hb.mono HB.out.size))
  clear hb
  clear c0 c1 c2
  go_wp2_with fail
  refine (CR.out _ (tab_below HT.out HB.out)).mono ?_
  rintro e W2 ⟨rfl, hb⟩
  replace I0 := Lib.hid (I0.out.below hb I0.out.lt)
  replace HB := Lib.hid (HB.out.trans (hb.mono HB.out.size))
  clear hb
  generalize w.heap.size = q0 at I0 ⊢
  cases hok : i.ok with
  | true =>
    have HOK := Lib.hid hok
    clear hok CR
    rw [show readV (if true = true then some i else none) = .tuple #[i.val, .int .i64 0] from rfl]
    have IX := Lib.hid (Blk.new W2 27 #[.int .u64 0, .int .i64 0, .int .u64 0])
    go_upto_region 4 with (refine L_istoreV (.tmp 5) (.tmp 14) i.t i.s i.q rfl rfl IX.out ?_)
    have hb : Below W2.heap.size W2 ((W2.alloc (.cells #[.int .u64 0, .int .i64 0, .int .u64 0] 27)).setRow W2.heap.size #[.int .u64 i.t, .int .i64 i.s, .int .u64 i.q]) := below_setRowK ((Below.refl _ _).alloc (Nat.le_refl _) _) (Nat.le_refl _) _
    have I5 := Lib.hid (IX.out.row #[.int .u64 i.t, .int .i64 i.s, .int .u64 i.q])
    clear IX
    replace I0 := Lib.hid (I0.out.below hb I0.out.lt)
    replace HB := Lib.hid (HB.out.trans (hb.mono HB.out.size))
    clear hb
    generalize (W2.alloc (.cells #[.int .u64 0, .int .i64 0, .int .u64 0] 27)).setRow W2.heap.size #[.int .u64 i.t, .int .i64 i.s, .int .u64 i.q] = W3 at I0 I5 HB ⊢
    generalize W2.heap.size = q5 at I5 ⊢
    have c0 := I0.out.cell 0
    have c1 := I0.out.cell 1
    have c2 := I0.out.cell 2
    simp at c0 c1 c2
    go_wp2_with fail
    refine (HK.out i HOK.out _).mono ?_
    rintro e W4 ⟨rfl, hb⟩
    replace I0 := Lib.hid (I0.out.below hb I0.out.lt)
    replace I5 := Lib.hid (I5.out.below hb I5.out.lt)
    replace HB := Lib.hid (HB.out.trans (hb.mono HB.out.size))
    clear hb c0 c1 c2
    have c0 := I0.out.cell 0
    have c1 := I0.out.cell 1
    have c2 := I0.out.cell 2
    have d0 := I5.out.cell 0
    have d1 := I5.out.cell 1
    have d2 := I5.out.cell 2
    simp at c0 c1 c2 d0 d1 d2
    have he := fun w => neqId i i w
    simp only [encId, eqId, beq_self_eq_true, Bool.and_true, Bool.not_true] at he
    go_upto_region 9 with fail
    go_wp2_with fail
    refine (CL.out _ (tab_below HT.out HB.out)).mono ?_
    rintro e W6 ⟨rfl, hb⟩
    replace HB := Lib.hid (HB.out.trans (hb.mono HB.out.size))
    clear hb
    cases hl : readB l with
    | none =>
      rw [show readV none = .tuple #[idV 0 0 0, .int .i64 210] from rfl]
      have IX := Lib.hid (Blk.new W6 27 #[.int .u64 0, .int .i64 0, .int .u64 0])
      go_upto_region 10 with (refine L_istoreV (.tmp 7) (.tmp 31) 0 0 0 rfl rfl IX.out ?_)
      have I7 := Lib.hid (IX.out.row #[.int .u64 0, .int .i64 0, .int .u64 0])
      have HB7 := Lib.hid (below_setRowK (HB.out.alloc HB.out.size (.cells #[.int .u64 0, .int .i64 0, .int .u64 0] 27)) HB.out.size #[.int .u64 0, .int .i64 0, .int .u64 0])
      clear IX HB
      generalize (W6.alloc (.cells #[.int .u64 0, .int .i64 0, .int .u64 0] 27)).setRow W6.heap.size #[.int .u64 0, .int .i64 0, .int .u64 0] = W7 at I7 HB7 ⊢
      generalize W6.heap.size = q7 at I7 ⊢
      have c0 := I7.out.cell 0
      have c1 := I7.out.cell 1
      have c2 := I7.out.cell 2
      simp at c0 c1 c2
      have he := eqlId ⟨0, 0, 0⟩ ⟨0, 0, 0⟩ W7
      simp only [encId] at he
      go_wp2_with fail
      go_ret
      exact ⟨rfl, HB7.out⟩
    | some j =>
      obtain ⟨hj, hlj⟩ := HO.out j hl
      have HJ := Lib.hid hj
      have HLJ := Lib.hid hlj
      clear hl hj hlj
      rw [show readV (some j) = .tuple #[j.val, .int .i64 0] from rfl]
      have IX := Lib.hid (Blk.new W6 27 #[.int .u64 0, .int .i64 0, .int .u64 0])
      go_upto_region 10 with (refine L_istoreV (.tmp 7) (.tmp 31) j.t j.s j.q rfl rfl IX.out ?_)
      have I7 := Lib.hid (IX.out.row #[.int .u64 j.t, .int .i64 j.s, .int .u64 j.q])
      have HB7 := Lib.hid (below_setRowK (HB.out.alloc HB.out.size (.cells #[.int .u64 0, .int .i64 0, .int .u64 0] 27)) HB.out.size #[.int .u64 j.t, .int .i64 j.s, .int .u64 j.q])
      clear IX HB
      generalize (W6.alloc (.cells #[.int .u64 0, .int .i64 0, .int .u64 0] 27)).setRow W6.heap.size #[.int .u64 j.t, .int .i64 j.s, .int .u64 j.q] = W7 at I7 HB7 ⊢
      generalize W6.heap.size = q7 at I7 ⊢
      have CJ := Lib.hid (fun W hT => Text_in j (in_ok HJ.out) W hT)
      rw [← HLJ.out] at CJ
      have c0 := I7.out.cell 0
      have c1 := I7.out.cell 1
      have c2 := I7.out.cell 2
      simp at c0 c1 c2
      go_wp2_with fail
      refine (CJ.out _ (tab_below HT.out HB7.out)).mono ?_
      rintro e W8 ⟨rfl, hb⟩
      replace I7 := Lib.hid (I7.out.below hb I7.out.lt)
      replace HB7 := Lib.hid (HB7.out.trans (hb.mono HB7.out.size))
      clear hb c0 c1 c2
      have c0 := I7.out.cell 0
      have c1 := I7.out.cell 1
      have c2 := I7.out.cell 2
      simp at c0 c1 c2
      go_wp2_with fail
      refine (HK.out j HJ.out _).mono ?_
      rintro e W9 ⟨rfl, hb⟩
      replace HB7 := Lib.hid (HB7.out.trans (hb.mono HB7.out.size))
      clear hb c0 c1 c2
      go_wp2_with fail
      go_ret
      exact ⟨rfl, HB7.out⟩
  | false =>
    have HOK := Lib.hid hok
    clear hok CR
    rw [show readV (if false = true then some i else none) = .tuple #[idV 0 0 0, .int .i64 210] from rfl]
    have IX := Lib.hid (Blk.new W2 27 #[.int .u64 0, .int .i64 0, .int .u64 0])
    go_upto_region 4 with (refine L_istoreV (.tmp 5) (.tmp 14) 0 0 0 rfl rfl IX.out ?_)
    have hb : Below W2.heap.size W2 ((W2.alloc (.cells #[.int .u64 0, .int .i64 0, .int .u64 0] 27)).setRow W2.heap.size #[.int .u64 0, .int .i64 0, .int .u64 0]) := below_setRowK ((Below.refl _ _).alloc (Nat.le_refl _) _) (Nat.le_refl _) _
    clear IX
    replace I0 := Lib.hid (I0.out.below hb I0.out.lt)
    replace HB := Lib.hid (HB.out.trans (hb.mono HB.out.size))
    clear hb
    generalize (W2.alloc (.cells #[.int .u64 0, .int .i64 0, .int .u64 0] 27)).setRow W2.heap.size #[.int .u64 0, .int .i64 0, .int .u64 0] = W3 at I0 HB ⊢
    generalize W2.heap.size = q5
    have c0 := I0.out.cell 0
    have c1 := I0.out.cell 1
    have c2 := I0.out.cell 2
    simp at c0 c1 c2
    go_wp2_with fail
    refine (HN.out i HOK.out _).mono ?_
    rintro e W4 ⟨rfl, hb⟩
    replace I0 := Lib.hid (I0.out.below hb I0.out.lt)
    replace HB := Lib.hid (HB.out.trans (hb.mono HB.out.size))
    clear hb c0 c1 c2
    go_upto_region 9 with fail
    go_wp2_with fail
    refine (CL.out _ (tab_below HT.out HB.out)).mono ?_
    rintro e W6 ⟨rfl, hb⟩
    replace HB := Lib.hid (HB.out.trans (hb.mono HB.out.size))
    clear hb
    cases hl : readB l with
    | none =>
      rw [show readV none = .tuple #[idV 0 0 0, .int .i64 210] from rfl]
      have IX := Lib.hid (Blk.new W6 27 #[.int .u64 0, .int .i64 0, .int .u64 0])
      go_upto_region 10 with (refine L_istoreV (.tmp 7) (.tmp 31) 0 0 0 rfl rfl IX.out ?_)
      have I7 := Lib.hid (IX.out.row #[.int .u64 0, .int .i64 0, .int .u64 0])
      have HB7 := Lib.hid (below_setRowK (HB.out.alloc HB.out.size (.cells #[.int .u64 0, .int .i64 0, .int .u64 0] 27)) HB.out.size #[.int .u64 0, .int .i64 0, .int .u64 0])
      clear IX HB
      generalize (W6.alloc (.cells #[.int .u64 0, .int .i64 0, .int .u64 0] 27)).setRow W6.heap.size #[.int .u64 0, .int .i64 0, .int .u64 0] = W7 at I7 HB7 ⊢
      generalize W6.heap.size = q7 at I7 ⊢
      have c0 := I7.out.cell 0
      have c1 := I7.out.cell 1
      have c2 := I7.out.cell 2
      simp at c0 c1 c2
      have he := eqlId ⟨0, 0, 0⟩ ⟨0, 0, 0⟩ W7
      simp only [encId] at he
      go_wp2_with fail
      go_ret
      exact ⟨rfl, HB7.out⟩
    | some j =>
      obtain ⟨hj, hlj⟩ := HO.out j hl
      have HJ := Lib.hid hj
      have HLJ := Lib.hid hlj
      clear hl hj hlj
      rw [show readV (some j) = .tuple #[j.val, .int .i64 0] from rfl]
      have IX := Lib.hid (Blk.new W6 27 #[.int .u64 0, .int .i64 0, .int .u64 0])
      go_upto_region 10 with (refine L_istoreV (.tmp 7) (.tmp 31) j.t j.s j.q rfl rfl IX.out ?_)
      have I7 := Lib.hid (IX.out.row #[.int .u64 j.t, .int .i64 j.s, .int .u64 j.q])
      have HB7 := Lib.hid (below_setRowK (HB.out.alloc HB.out.size (.cells #[.int .u64 0, .int .i64 0, .int .u64 0] 27)) HB.out.size #[.int .u64 j.t, .int .i64 j.s, .int .u64 j.q])
      clear IX HB
      generalize (W6.alloc (.cells #[.int .u64 0, .int .i64 0, .int .u64 0] 27)).setRow W6.heap.size #[.int .u64 j.t, .int .i64 j.s, .int .u64 j.q] = W7 at I7 HB7 ⊢
      generalize W6.heap.size = q7 at I7 ⊢
      have CJ := Lib.hid (fun W hT => Text_in j (in_ok HJ.out) W hT)
      rw [← HLJ.out] at CJ
      have c0 := I7.out.cell 0
      have c1 := I7.out.cell 1
      have c2 := I7.out.cell 2
      simp at c0 c1 c2
      go_wp2_with fail
      refine (CJ.out _ (tab_below HT.out HB7.out)).mono ?_
      rintro e W8 ⟨rfl, hb⟩
      replace I7 := Lib.hid (I7.out.below hb I7.out.lt)
      replace HB7 := Lib.hid (HB7.out.trans (hb.mono HB7.out.size))
      clear hb c0 c1 c2
      have c0 := I7.out.cell 0
      have c1 := I7.out.cell 1
      have c2 := I7.out.cell 2
      simp at c0 c1 c2
      go_wp2_with fail
      refine (HK.out j HJ.out _).mono ?_
      rintro e W9 ⟨rfl, hb⟩
      replace HB7 := Lib.hid (HB7.out.trans (hb.mono HB7.out.size))
      clear hb c0 c1 c2
      go_wp2_with fail
      go_ret
      exact ⟨rfl, HB7.out⟩
end Go.Proofs.YtoiaecfiinkmjaaDoor
