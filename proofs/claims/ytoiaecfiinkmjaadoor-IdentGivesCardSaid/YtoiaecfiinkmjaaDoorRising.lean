/- ident.Less, ident.Rising: their contracts. -/
import Derived.Test.YtoiaecfiinkmjaaDoorSorted
import Derived.Test.YtoiaecfiinkmjaaDoorStillIn
namespace Go.Proofs.YtoiaecfiinkmjaaDoor
open Go.RowKit Go.Shelf Go.Sort
attribute [local go_sem] Oper.semAt_some

theorem below_drewR {B : Nat} (w : World) (q : Nat) : Below B w (w.drewN q) := ⟨rfl, rfl, rfl, Nat.le_refl _, fun _ _ => rfl⟩
theorem Compare_ret (x y : Idn) (w : World) : Calls Tryd.prog 29 #[x.val, y.val] w (Ret (.int .i64 (cmpId x y)) w) := (Compare_lays x y w).mono fun e w' h => by
  obtain ⟨h1, q, os, rfl⟩ := h
  exact ⟨h1, (below_drewR w q).trans (below_grow _ os (Nat.le_refl _))⟩
theorem cmp_lt (x y : Idn) : decide (cmpId x y < 0) = lessId x y := lt_cmpId x y

set_option maxHeartbeats 400000 in
theorem Less_any (x y : Idn) (w : World) : Calls Tryd.prog 25 #[x.val, y.val] w (Ret (.bool (lessId x y)) w) := by
  have HC := Lib.hid (fun W => Compare_ret x y W)
  have HL := Lib.hid (cmp_lt x y)
  go_enter Tryd.func25, Tryd.ntmps25
  go_wp2_with fail
  refine (HC.out _).mono ?_
  rintro e W ⟨rfl, hb⟩
  have HB : Hid (Below w.heap.size w W) := Below.trans (by go_grown) (hb.mono (by simp; omega))
  have hl := HL.out
  clear hb
  go_wp2_with fail
  go_ret
  exact ⟨rfl, HB.out⟩
set_option maxHeartbeats 400000 in
theorem Rising1_any (x y : Idn) (w : World) : Calls Tryd.prog 50 #[x.val, y.val] w (Ret (.bool (lessId x y)) w) := by
  have HC := Lib.hid (fun W => Less_any x y W)
  go_enter Tryd.func50, Tryd.ntmps50
  go_wp2_with fail
  refine (HC.out _).mono ?_
  rintro e W ⟨rfl, hb⟩
  have HB : Hid (Below w.heap.size w W) := Below.trans (by go_grown) (hb.mono (by simp; omega))
  clear hb
  go_wp2_with fail
  go_ret
  exact ⟨rfl, HB.out⟩

set_option maxHeartbeats 400000 in
theorem pairs_any (a : Option Addr) (n c : Nat) (w : World) :
    Calls Tryd.prog 59 #[.slice a n c] w fun e w' => e = .returned (.func (.func 72) #[] #[.pointer (some ⟨w.heap.size, 0, none⟩)]) ∧ w' = w.alloc (.cells #[.slice a n c] 22) := by
  go_enter Tryd.func59, Tryd.ntmps59
  go_wp2
  go_ret
  exact ⟨rfl, rfl⟩

/-- a row's place. -/
def atI (L : List Idn) (k : Nat) : Idn := L.getD k default
theorem atI_get {L : List Idn} {k : Nat} (h : k < L.length) : L[k]? = some (atI L k) := by simp [atI, h]

set_option maxHeartbeats 1000000 in
set_option maxRecDepth 100000 in
theorem pairs1_in (n : Nat) (hn : 1 ≤ n) (l Bx m c : Nat) (a : Option Addr) (L : List Idn) (hm : m = L.length) (hbig : L.length ≤ 9223372036854775807) (J Jx : List Nat → World → Prop)
    (hJb : ∀ (pre : List Nat) W, J pre W → W.cell? ⟨Bx, 0, none⟩ = some (.slice a m c) ∧ (L = [] ∨ ∃ b off, a = some ⟨b, off, none⟩ ∧ ∀ j x, L[j]? = some x → ∀ i v, (encId x)[i]? = some v → W.cell? ⟨b, off + j * 3 + i, none⟩ = some v))
    (hY : ∀ (pre : List Nat) (x : Nat) W, 1 ≤ x → x < L.length → J pre W → pre.length < L.length - 1 → YieldAt Fence.wide (n - 1) Tryd.prog l #[(atI L (x - 1)).val, (atI L x).val] W fun e W' =>
      (e = .returned (.bool true) ∧ J (pre ++ [x]) W' ∧ True) ∨ (e = .returned (.bool false) ∧ Jx (pre ++ [x]) W'))
    (hD : ∀ (pre : List Nat) W, J pre W → J pre W.drew) (W : World) (h0 : J [] W) :
    CallsIn Fence.wide n Tryd.prog 72 #[.func (.yield l) #[] #[], .pointer (some ⟨Bx, 0, none⟩)] W fun e W' => (∃ v, e = .returned v) ∧
      ((∃ ys, ys = List.range' 1 (L.length - 1) ∧ J ys W') ∨ (∃ pre, (∃ k, k ≤ L.length - 1 ∧ pre = List.range' 1 k) ∧ Jx pre W')) := by
  subst hm
  have HJ := Lib.hid hJb
  have HY := Lib.hid hY
  have HD := Lib.hid hD
  obtain ⟨cb, _⟩ := hJb _ _ h0
  clear hJb hY hD
  refine callsIn_of_wp Tryd.func72 rfl trivial ?_ rfl
  simp only [Tryd.ntmps72, List.size_toArray, List.length_cons, List.length_nil, Nat.reduceAdd, Nat.reduceSub, Array.replicate_succ, Array.replicate_zero, List.push_toArray, List.append_toArray, List.nil_append, List.cons_append]
  gi_wp2
  refine wpIn_scope_wide ?_
  gi_wp2
  refine wpIn_label ?_
  gi_wp2
  clear cb
  gi_loopw [6] (fun i wr => ∃ k : Nat, k ≤ L.length ∧ i = .int .i64 k ∧ J (List.range' 1 (k - 1)) wr)
    (fun i _ => L.length - (intOf i).toNat)
  case atStart => exact ⟨0, Nat.zero_le _, rfl, h0⟩
  case round =>
    obtain ⟨k, hk, rfl, hJs⟩ := hrel
    by_cases hlt : k < L.length
    · obtain ⟨cb, hcs⟩ := HJ.out _ _ hJs
      obtain ⟨b, off, rfl, hcz⟩ := hcs.resolve_left (fun e => by rw [e] at hlt; simp at hlt)
      by_cases hk0 : 0 < k
      · have hd : decide (0 < (k : Int)) = true := by simp; omega
        have x0 := hcz k _ (atI_get hlt) 0 _ rfl
        have x1 := hcz k _ (atI_get hlt) 1 _ rfl
        have x2 := hcz k _ (atI_get hlt) 2 _ rfl
        have y0 := hcz (k - 1) _ (atI_get (by omega)) 0 _ rfl
        have y1 := hcz (k - 1) _ (atI_get (by omega)) 1 _ rfl
        have y2 := hcz (k - 1) _ (atI_get (by omega)) 2 _ rfl
        clear hcs hcz
        simp only [Nat.add_zero] at x0 y0
        have hk1 : IntKind.i64.wrap ((k : Int) - 1) = ((k - 1 : Nat) : Int) := by rw [IntWalk.i64_in _ (by omega)]; omega
        have hr0 : (0 : Int) ≤ ((k - 1 : Nat) : Int) := by omega
        have hr3 : (0 : Int) ≤ (k : Int) := by omega
        have hr1 : ((k - 1 : Nat) : Int) < (L.length : Int) := by omega
        have hr2 : (k : Int) < (L.length : Int) := by omega
        gi_wp2
        refine wpIn_region_still_tail 13 (by kernel_rfl) (by kernel_rfl) ?_
        simp only [List.take_succ_cons, List.take_zero, List.drop_succ_cons, List.drop_zero]
        repeat still_step
        refine wpStill_nil ?_
        clear x0 x1 x2 y0 y1 y2 cb
        replace hJs := HD.out _ _ hJs
        obtain ⟨fn, tmps, assign, body, hy, hR⟩ := HY.out _ k _ hk0 hlt hJs (by simp; omega)
        gi_wp2
        refine hR.mono ?_
        rintro e W3 (⟨rfl, hJ3, _⟩ | ⟨rfl, hJx3⟩)
        · gi_wp2
          go_roundw
          case rel => exact ⟨k + 1, by omega, by go_num, by rw [show k + 1 - 1 = k by omega, ← range'_snoc hk0]; exact hJ3⟩
          case measure => simp [intOf]; omega
        · gi_wp2
          rw [Exit.noGoto_normal]
          go_end0
          exact ⟨⟨_, rfl⟩, .inr ⟨_, ⟨k, by omega, range'_snoc hk0⟩, hJx3⟩⟩
      · have hd : decide (0 < (k : Int)) = false := by simp; omega
        clear hcs hcz
        gi_wp2
        refine wpIn_region_still_tail 13 (by kernel_rfl) (by kernel_rfl) ?_
        simp only [List.take_succ_cons, List.take_zero, List.drop_succ_cons, List.drop_zero]
        still_step
        still_step
        still_step
        iterate 10 (with_reducible refine wpStill_off ?_ ?_; (· kernel_rfl); simp only [Act.put, List.setIfInBounds_toArray, List.set_cons_succ, List.set_cons_zero])
        with_reducible refine wpStill_nil ?_
        replace hJs := HD.out _ _ hJs
        gi_wp2
        refine ⟨fun _ h => (by cases h), ?_⟩
        gi_wp2
        go_roundw
        case rel => exact ⟨k + 1, by omega, by go_num, by rw [show k + 1 - 1 = k - 1 by omega]; exact hJs⟩
        case measure => simp [intOf]; omega
    · obtain rfl : k = L.length := by omega
      gi_wp2
      rw [Exit.noGoto_normal]
      go_end0
      exact ⟨⟨_, rfl⟩, .inl ⟨_, rfl, hJs⟩⟩

/-- the pairs of a row. -/
theorem pairs1_stops (n : Nat) (hn : 1 ≤ n) (Bx m c : Nat) (a : Option Addr) (L : List Idn) (w : World) (hx : w.cell? ⟨Bx, 0, none⟩ = some (.slice a m c)) (hb : Bx < w.heap.size) (hS : RowS encId 3 w a m L) :
    SeqStopsK Fence.wide n Tryd.prog 72 #[.pointer (some ⟨Bx, 0, none⟩)] (fun x : Nat => #[(atI L (x - 1)).val, (atI L x).val]) (fun A B => Below w.heap.size A B)
      (fun ys => ys = List.range' 1 (L.length - 1)) (fun pre => ∃ k, k ≤ L.length - 1 ∧ pre = List.range' 1 k) (L.length - 1) w := fun l J Jx W hW hA _ hY h0 =>
  (pairs1_in n hn l Bx m c a L hS.1 hS.2.1 (fun pre W1 => J pre W1 ∧ Below w.heap.size w W1) Jx
    (fun pre W1 ⟨_, hB⟩ => ⟨(hB.cell (p := ⟨Bx, 0, none⟩) hb).trans hx, (hS.below hB).2.2.imp id fun ⟨b, off, ea, _, hc⟩ => ⟨b, off, ea, hc⟩⟩)
    (fun pre x W1 _ _ ⟨hJ, hB⟩ hlen => by
      obtain ⟨fn, tmps, assign, body, hy, hR⟩ := hY pre x W1 hJ hlen
      refine ⟨fn, tmps, assign, body, hy, hR.mono fun e W' h => ?_⟩
      rcases h with ⟨he, hj, ht⟩ | ⟨he, hj⟩
      · exact .inl ⟨he, ⟨hj, hB.trans ht⟩, trivial⟩
      · exact .inr ⟨he, hj⟩)
    (fun pre W1 ⟨hJ, hB⟩ => ⟨hA pre W1 W1.drew none hJ ⟨rfl, rfl, rfl, Nat.le_refl _, fun _ _ _ => rfl⟩ (fun r e => by cases e), hB.drew⟩) W ⟨h0, hW⟩).mono fun e W' h => by
      obtain ⟨hv, ⟨ys, hys, hJ, _⟩ | ⟨pre, hpre, hJ⟩⟩ := h
      · exact ⟨hv, .inl ⟨ys, hys, hJ⟩⟩
      · exact ⟨hv, .inr ⟨pre, hpre, hJ⟩⟩
end Go.Proofs.YtoiaecfiinkmjaaDoor
