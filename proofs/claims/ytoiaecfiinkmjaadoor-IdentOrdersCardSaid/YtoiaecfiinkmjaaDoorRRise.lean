/- gessoref11.Rising: its contract. -/
import Derived.Test.YtoiaecfiinkmjaaDoorRising2
import Derived.Test.YtoiaecfiinkmjaaDoorRef11
import Derived.StillTailTactics
namespace Go.Proofs.YtoiaecfiinkmjaaDoor
open Go.RowKit Go.Shelf Go.Sort

set_option maxHeartbeats 2000000 in
set_option maxRecDepth 100000 in
theorem RRising_run (a : Option Addr) (n c : Nat) (L : List Idn) (w : World) (hS : RowS encId 3 w a n L) :
    Calls Tryd.prog 34 #[.slice a n c] w fun e w' =>
      ((∀ x, 1 ≤ x → x < L.length → lessId (atI L (x - 1)) (atI L x) = true) ∧ Ret (.bool true) w e w') ∨ ((∃ x, 1 ≤ x ∧ x < L.length ∧ lessId (atI L (x - 1)) (atI L x) = false) ∧ Ret (.bool false) w e w') := by
  obtain ⟨rfl, hbig, hL⟩ := hS
  have HL := Lib.hid hL
  clear hL
  go_enter Tryd.func34, Tryd.ntmps34
  go_wp2_with fail
  go_loopw [6] (fun i wr => ∃ k : Nat, k ≤ L.length ∧ i = .int .i64 k ∧ Hid (∀ x, 1 ≤ x → x < k → lessId (atI L (x - 1)) (atI L x) = true) ∧ Below w.heap.size w wr) (fun i _ => L.length - (intOf i).toNat)
  case atStart => exact ⟨0, Nat.zero_le _, rfl, (fun x _ hx => by omega), Below.refl _ _⟩
  case round =>
    obtain ⟨k, hk, rfl, HA, hB⟩ := hrel
    by_cases hlt : k < L.length
    · obtain ⟨b, off, rfl, hbl, hv⟩ := HL.out.resolve_left (fun e => by rw [e] at hlt; simp at hlt)
      by_cases hk0 : 0 < k
      · have hd : decide (0 < (k : Int)) = true := by simp; omega
        have hw : ∀ j x, L[j]? = some x → ∀ i v, (encId x)[i]? = some v → wr.cell? ⟨b, off + j * 3 + i, none⟩ = some v := fun j x hj i v hi => (hB.cell (p := ⟨b, off + j * 3 + i, none⟩) hbl).trans (hv j x hj i v hi)
        have x0 := hw k _ (atI_get hlt) 0 _ rfl
        have x1 := hw k _ (atI_get hlt) 1 _ rfl
        have x2 := hw k _ (atI_get hlt) 2 _ rfl
        have y0 := hw (k - 1) _ (atI_get (by omega)) 0 _ rfl
        have y1 := hw (k - 1) _ (atI_get (by omega)) 1 _ rfl
        have y2 := hw (k - 1) _ (atI_get (by omega)) 2 _ rfl
        simp only [Nat.add_zero] at x0 y0
        have hk1 : IntKind.i64.wrap ((k : Int) - 1) = ((k - 1 : Nat) : Int) := by rw [IntWalk.i64_in _ (by omega)]; omega
        have hr0 : (0 : Int) ≤ ((k - 1 : Nat) : Int) := by omega
        have hr3 : (0 : Int) ≤ (k : Int) := by omega
        have hr1 : ((k - 1 : Nat) : Int) < (L.length : Int) := by omega
        have hr2 : (k : Int) < (L.length : Int) := by omega
        have HB := Lib.hid hB
        clear hw hv hB
        have hC := fun W => RLess_any (atI L (k - 1)) (atI L k) W
        cases hless : lessId (atI L (k - 1)) (atI L k) with
        | true =>
          rw [hless] at hC
          have HC := Lib.hid hC
          have HS := Lib.hid hless
          clear hC hless
          go_wp2_with fail
          refine wp_region_still_tail 12 (by kernel_rfl) (by kernel_rfl) ?_
          simp only [List.take_succ_cons, List.take_zero, List.drop_succ_cons, List.drop_zero]
          repeat still_step
          refine wpStill_nil ?_
          clear x0 x1 x2 y0 y1 y2
          go_wp2_with fail
          refine (HC.out _).mono ?_
          rintro e W3 ⟨rfl, hb⟩
          have hb2 : Below wr.heap.size wr W3 := Below.trans (Below.refl _ _).drew hb
          have HB3 := Lib.hid (HB.out.trans (hb2.mono HB.out.size))
          clear hb hb2
          go_wp2_with fail
          go_roundw
          case rel =>
            refine ⟨k + 1, by omega, by go_num, (fun x h1 h2 => ?_), HB3.out⟩
            by_cases hx : x < k
            · exact HA.out x h1 hx
            · obtain rfl : x = k := by omega
              exact HS.out
          case measure => simp [intOf]; omega
        | false =>
          rw [hless] at hC
          have HC := Lib.hid hC
          have HS := Lib.hid hless
          clear hC hless
          go_wp2_with fail
          refine wp_region_still_tail 12 (by kernel_rfl) (by kernel_rfl) ?_
          simp only [List.take_succ_cons, List.take_zero, List.drop_succ_cons, List.drop_zero]
          repeat still_step
          refine wpStill_nil ?_
          clear x0 x1 x2 y0 y1 y2
          go_wp2_with fail
          refine (HC.out _).mono ?_
          rintro e W3 ⟨rfl, hb⟩
          have hb2 : Below wr.heap.size wr W3 := Below.trans (Below.refl _ _).drew hb
          have HB3 := Lib.hid (HB.out.trans (hb2.mono HB.out.size))
          clear hb hb2
          go_wp2_with fail
          go_ret
          exact .inr ⟨⟨k, by omega, hlt, HS.out⟩, rfl, HB3.out⟩
      · obtain rfl : k = 0 := by omega
        have HB := Lib.hid hB
        clear hv hB
        have hd : decide (0 < ((0 : Nat) : Int)) = false := by simp
        go_wp2_with fail
        refine wp_region_still_tail 12 (by kernel_rfl) (by kernel_rfl) ?_
        simp only [List.take_succ_cons, List.take_zero, List.drop_succ_cons, List.drop_zero]
        still_step
        still_step
        still_step
        iterate 9 (with_reducible refine wpStill_off ?_ ?_; (· kernel_rfl); simp only [Act.put, List.setIfInBounds_toArray, List.set_cons_succ, List.set_cons_zero])
        with_reducible refine wpStill_nil ?_
        go_wp2_with fail
        go_roundw
        case rel => exact ⟨1, by omega, by go_num, (fun x h1 h2 => by omega), HB.out.trans (Below.mono (Below.refl _ _).drew HB.out.size)⟩
        case measure => simp [intOf]; omega
    · obtain rfl : k = L.length := by omega
      have HB := Lib.hid hB
      clear hB
      go_wp2_with fail
      go_ret
      exact .inl ⟨HA.out, rfl, HB.out⟩
theorem RRising_any (a : Option Addr) (n c : Nat) (L : List Idn) (w : World) (hS : RowS encId 3 w a n L) :
    Calls Tryd.prog 34 #[.slice a n c] w (Ret (.bool (riseB L)) w) := by
  refine (RRising_run a n c L w hS).mono ?_
  rintro e w' (⟨hx, hr⟩ | ⟨⟨x, h1, h2, hx⟩, hr⟩)
  · rw [show riseB L = true from by
      unfold riseB
      rw [List.all_eq_true]
      intro x hm
      simp only [List.mem_range'_1] at hm
      exact hx x hm.1 (by omega)]; exact hr
  · rw [show riseB L = false from by
      unfold riseB
      rw [List.all_eq_false]
      refine ⟨x, ?_, by rw [hx]; simp⟩
      simp only [List.mem_range'_1]
      omega]; exact hr
end Go.Proofs.YtoiaecfiinkmjaaDoor
