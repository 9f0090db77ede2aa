/- gessoref11.part: its contract. -/
import Derived.Test.YtoiaecfiinkmjaaDoorRReadLaw
import Derived.Test.YtoiaecfiinkmjaaDoorBackLaw
namespace Go.Proofs.YtoiaecfiinkmjaaDoor
open Go.RowKit Go.Shelf

theorem pv_no {l : List UInt8} {k : Nat} (h : k < l.length) (hd : dig l[k] = false) : pv l = (0, false) := by
  rw [pv, if_neg]
  intro ha
  have := List.all_eq_true.1 ha l[k] (List.getElem_mem h)
  rw [hd] at this; cases this
theorem numOf_take_lt18 {l : List UInt8} {k : Nat} (h : (l.take k).all dig = true) (hk : k < 19) : numOf (l.take k) < 1000000000000000000 := by
  have h1 := numOf_lt _ h
  have h2 : (10 : Nat) ^ (l.take k).length ≤ 10 ^ 18 := Nat.pow_le_pow_right (by decide) (by rw [List.length_take]; omega)
  omega
theorem take_dig {l : List UInt8} {k : Nat} (h : (l.take k).all dig = true) (hk : k < l.length) (hd : dig l[k] = true) : (l.take (k + 1)).all dig = true := by
  rw [List.take_succ_eq_append_getElem hk, List.all_append, h]; simp [hd]
theorem numOf_step {l : List UInt8} {k : Nat} (hk : k < l.length) : numOf (l.take (k + 1)) = 10 * numOf (l.take k) + (l[k].toNat - 48) := by
  rw [List.take_succ_eq_append_getElem hk, numOf_snoc]

set_option maxRecDepth 100000 in
set_option maxHeartbeats 1000000 in
theorem RPart_any (l : List UInt8) (hl : l.length ≤ 1000000) (w : World) : Calls Tryd.prog 38 #[strV l] w fun e w' => e = .returned (.tuple #[.int .u64 (pv l).1, .bool (pv l).2]) ∧ w' = w := by
  have HL := Lib.hid (show l = l from rfl)
  go_enter Tryd.func38, Tryd.ntmps38
  go_wp2_with fail
  go_loop [4, 8] (fun a i => ∃ k : Nat, k ≤ l.length ∧ i = .int .i64 k ∧ a = .int .u64 (numOf (l.take (min k 19))) ∧ Aside ((l.take k).all dig = true)) (fun _ i => l.length - (intOf i).toNat)
  case atStart => exact ⟨0, Nat.zero_le _, rfl, rfl, (show Aside _ from rfl)⟩
  case round =>
    obtain ⟨k, hk, rfl, rfl, A⟩ := hrel
    by_cases hlt : k < l.length
    · obtain ⟨c, hc⟩ : ∃ c : UInt8, (⟨l.toArray⟩ : ByteArray)[k]'(by show k < l.toArray.size; simpa using hlt) = c := ⟨_, rfl⟩
      have HC : Hid (l[k] = c) := hc
      by_cases h19 : k < 19
      · have hmin : min k 19 = k := by omega
        rw [hmin]
        have hmin' : Hid (min (k + 1) 19 = k + 1) := by show _ = _; omega
        have hn := numOf_take_lt18 A.out h19
        have HN := Lib.hid (numOf_step hlt)
        generalize numOf (l.take k) = n at hn HN ⊢
        by_cases hd : dig c = true
        · simp only [dig, Bool.and_eq_true, decide_eq_true_eq] at hd
          obtain ⟨h48, h57⟩ := hd
          have hd1 : decide ((48 : Int) ≤ (c.toNat : Int)) = true := by simp; omega
          have hd2 : decide ((c.toNat : Int) ≤ 57) = true := by simp; omega
          have hd3 : decide ((c.toNat : Int) < 48) = false := by simp; omega
          have hd4 : decide ((57 : Int) < (c.toNat : Int)) = false := by simp; omega
          have hw1 : IntKind.u64.wrap (10 * (n : Int)) = 10 * (n : Int) := IntWalk.u64_in _ (by omega)
          have hw2 : IntKind.u64.wrap (10 * (n : Int) + ((c.toNat : Int) - 48)) = 10 * (n : Int) + ((c.toNat : Int) - 48) := IntWalk.u64_in _ (by omega)
          have hw4 : IntKind.u64.wrap ((c.toNat : Int) - 48) = (c.toNat : Int) - 48 := IntWalk.u64_in _ (by omega)
          have hw5 : IntKind.u8.wrap ((c.toNat : Int) - 48) = (c.toNat : Int) - 48 := by unfold IntKind.wrap; simp [IntKind.bits, IntKind.signed]; omega
          go_wp2_with fail
          go_round
          case rel =>
            refine ⟨k + 1, by omega, by go_num, ?_, (show Aside _ from take_dig A.out hlt (by rw [HC.out]; simp [dig]; omega))⟩
            rw [hmin'.out, HN.out, HC.out]
            congr 1
            omega
          case measure => simp [RowKit.intOf]; omega
        · have HD : Hid (pv l = (0, false)) := pv_no hlt (by rw [HC.out]; simpa using hd)
          simp only [dig, Bool.and_eq_true, decide_eq_true_eq] at hd
          by_cases h48 : 48 ≤ c.toNat
          · have hd1 : decide ((48 : Int) ≤ (c.toNat : Int)) = true := by simp; omega
            have hd2 : decide ((c.toNat : Int) ≤ 57) = false := by simp; omega
            have hd3 : decide ((c.toNat : Int) < 48) = false := by simp; omega
            have hd4 : decide ((57 : Int) < (c.toNat : Int)) = true := by simp; omega
            go_wp2_with fail
            go_ret2
            rw [HD.out]
            exact ⟨rfl, rfl⟩
          · have hd1 : decide ((48 : Int) ≤ (c.toNat : Int)) = false := by simp; omega
            have hd3 : decide ((c.toNat : Int) < 48) = true := by simp; omega
            go_wp2_with fail
            go_ret2
            rw [HD.out]
            exact ⟨rfl, rfl⟩
      · have hmin : min k 19 = 19 := by omega
        rw [hmin]
        have hmin' : Hid (min (k + 1) 19 = 19) := by show _ = _; omega
        have h19' : decide ((k : Int) < 19) = false := by simp; omega
        by_cases hd : dig c = true
        · simp only [dig, Bool.and_eq_true, decide_eq_true_eq] at hd
          obtain ⟨h48, h57⟩ := hd
          have hd1 : decide ((48 : Int) ≤ (c.toNat : Int)) = true := by simp; omega
          have hd2 : decide ((c.toNat : Int) ≤ 57) = true := by simp; omega
          have hd3 : decide ((c.toNat : Int) < 48) = false := by simp; omega
          have hd4 : decide ((57 : Int) < (c.toNat : Int)) = false := by simp; omega
          go_wp2_with fail
          go_round
          case rel =>
            refine ⟨k + 1, by omega, by go_num, ?_, (show Aside _ from take_dig A.out hlt (by rw [HC.out]; simp [dig]; omega))⟩
            rw [hmin'.out]
          case measure => simp [RowKit.intOf]; omega
        · have HD : Hid (pv l = (0, false)) := pv_no hlt (by rw [HC.out]; simpa using hd)
          simp only [dig, Bool.and_eq_true, decide_eq_true_eq] at hd
          by_cases h48 : 48 ≤ c.toNat
          · have hd1 : decide ((48 : Int) ≤ (c.toNat : Int)) = true := by simp; omega
            have hd2 : decide ((c.toNat : Int) ≤ 57) = false := by simp; omega
            have hd3 : decide ((c.toNat : Int) < 48) = false := by simp; omega
            have hd4 : decide ((57 : Int) < (c.toNat : Int)) = true := by simp; omega
            go_wp2_with fail
            go_ret2
            rw [HD.out]
            exact ⟨rfl, rfl⟩
          · have hd1 : decide ((48 : Int) ≤ (c.toNat : Int)) = false := by simp; omega
            have hd3 : decide ((c.toNat : Int) < 48) = true := by simp; omega
            go_wp2_with fail
            go_ret2
            rw [HD.out]
            exact ⟨rfl, rfl⟩
    · have hk' : k = l.length := by omega
      have HD : Hid (pv l = (numOf (l.take (min k 19)), decide (1 ≤ l.length) && decide (l.length ≤ 19))) := by
        show _ = _
        have ha : l.all dig = true := by have := A.out; rwa [hk', List.take_length] at this
        have ht : l.take (min k 19) = l.take 19 := by
          by_cases h : l.length ≤ 19
          · rw [show min k 19 = l.length by omega, List.take_length, List.take_of_length_le h]
          · rw [show min k 19 = 19 by omega]
        rw [pv, if_pos ha, ht]
      generalize numOf (l.take (min k 19)) = n at HD ⊢
      clear A hk'
      by_cases h1 : 1 ≤ l.length
      · have hd1 : decide ((1 : Int) ≤ (l.length : Int)) = true := by simp; omega
        go_wp2_with fail
        go_ret2
        rw [HD.out]
        refine ⟨?_, rfl⟩
        have e1 : decide (1 ≤ l.length) = true := by simpa using h1
        have e2 : decide ((l.length : Int) ≤ 19) = decide (l.length ≤ 19) := by simp; omega
        simp [e1, e2]
      · have hd1 : decide ((1 : Int) ≤ (l.length : Int)) = false := by simp; omega
        go_wp2_with fail
        go_ret2
        rw [HD.out]
        refine ⟨?_, rfl⟩
        have e1 : decide (1 ≤ l.length) = false := by simpa using h1
        simp [e1]
end Go.Proofs.YtoiaecfiinkmjaaDoor
