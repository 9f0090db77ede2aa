/- The vector's iterator over its sites: its contract. -/
import Derived.Test.YtoiaecfiinkmjaaKit
namespace Go.Proofs.Ytoiaecfiinkmjaa
open Go.RowKit Go.Shelf
attribute [local go_sem] Oper.semAt_some

theorem run_index_vec (f : Nat → Int) {k : Nat} (h : k < 9) (w : World) : (Instr.index 24 (vec f) (.int .i64 (k : Int))).run Try.prog w = .ok (.int .u64 (f k)) w := by
  rcases lt9 h with rfl | rfl | rfl | rfl | rfl | rfl | rfl | rfl | rfl <;> kernel_rfl

set_option maxHeartbeats 400000 in
theorem sites_any (p : Option Addr) (w : World) :
    Calls Try.prog 40 #[.pointer p] w fun e w' => e = .returned (.func (.func 49) #[] #[.pointer (some ⟨w.heap.size, 0, none⟩)]) ∧ w' = w.alloc (.cells #[.pointer p] 65) := by
  go_enter Try.func40, Try.ntmps40
  go_wp2
  go_ret
  exact ⟨rfl, rfl⟩

set_option maxHeartbeats 400000 in
set_option maxRecDepth 100000 in
theorem sites1_in (n : Nat) (hn : 1 ≤ n) (l Bx Bh : Nat) (f : Nat → Int) (J Jx : List Nat → World → Prop)
    (hY : ∀ (pre : List Nat) (x : Nat) W, 1 ≤ x → x < 9 → J pre W → pre.length < 8 → YieldAt Fence.wide (n - 1) Try.prog l #[.int .i64 (x : Int), .int .u64 (f x)] W fun e W' =>
      (e = .returned (.bool true) ∧ J (pre ++ [x]) W' ∧ True) ∨ (e = .returned (.bool false) ∧ Jx (pre ++ [x]) W'))
    (W : World) (hx : W.cell? ⟨Bx, 0, none⟩ = some (.pointer (some ⟨Bh, 0, none⟩)))
    (hc0 : W.cell? ⟨Bh, 0, none⟩ = some (.int .u64 (f 0)))
    (hc1 : W.cell? ⟨Bh, 1, none⟩ = some (.int .u64 (f 1)))
    (hc2 : W.cell? ⟨Bh, 2, none⟩ = some (.int .u64 (f 2)))
    (hc3 : W.cell? ⟨Bh, 3, none⟩ = some (.int .u64 (f 3)))
    (hc4 : W.cell? ⟨Bh, 4, none⟩ = some (.int .u64 (f 4)))
    (hc5 : W.cell? ⟨Bh, 5, none⟩ = some (.int .u64 (f 5)))
    (hc6 : W.cell? ⟨Bh, 6, none⟩ = some (.int .u64 (f 6)))
    (hc7 : W.cell? ⟨Bh, 7, none⟩ = some (.int .u64 (f 7)))
    (hc8 : W.cell? ⟨Bh, 8, none⟩ = some (.int .u64 (f 8)))
    (h0 : J [] W) :
    CallsIn Fence.wide n Try.prog 49 #[.func (.yield l) #[] #[], .pointer (some ⟨Bx, 0, none⟩)] W fun e W' => (∃ v, e = .returned v) ∧
      ((∃ ys, ys = [1,2,3,4,5,6,7,8] ∧ J ys W') ∨ (∃ pre, (∃ k, k ≤ 8 ∧ pre = List.range' 1 k) ∧ Jx pre W')) := by
  refine callsIn_of_wp Try.func49 rfl trivial ?_ rfl
  simp only [Try.ntmps49, List.size_toArray, List.length_cons, List.length_nil, Nat.reduceAdd, Nat.reduceSub, Array.replicate_succ, Array.replicate_zero, List.push_toArray, List.append_toArray, List.nil_append, List.cons_append]
  gi_wp2
  refine wpIn_scope_wide ?_
  gi_wp2
  refine wpIn_label ?_
  gi_wp2
  gi_loopw [9] (fun i wr => ∃ k : Nat, k ≤ 9 ∧ i = .int .i64 k ∧ J (List.range' 1 (k - 1)) wr)
    (fun i _ => 9 - (intOf i).toNat)
  case atStart => exact ⟨0, Nat.zero_le _, rfl, h0⟩
  case round =>
    obtain ⟨k, hk, rfl, hJs⟩ := hrel
    by_cases hlt : k < 9
    · have hix := run_index_vec f hlt
      unfold vec at hix
      by_cases hk0 : 0 < k
      · obtain ⟨fn, tmps, assign, body, hy, hR⟩ := hY _ k wr hk0 hlt hJs (by simp; omega)
        gi_wp2
        refine hR.mono ?_
        rintro e W3 (⟨rfl, hJ3, _⟩ | ⟨rfl, hJx3⟩)
        · gi_wp2
          go_roundw
          case rel => exact ⟨k + 1, by omega, by go_num, by rw [show k + 1 - 1 = k by omega, ← range'_snoc hk0]; exact hJ3⟩
          case measure => simp [intOf]; omega
        · gi_wp2
          rw [Exit.noGoto_normal]
          go_end0
          exact ⟨⟨_, rfl⟩, .inr ⟨_, ⟨k, by omega, range'_snoc hk0⟩, hJx3⟩⟩
      · have hd : decide (0 < (k : Int)) = false := by simp; omega
        gi_wp2
        refine ⟨fun _ h => (by cases h), ?_⟩
        gi_wp2
        go_roundw
        case rel => exact ⟨k + 1, by omega, by go_num, by rw [show k + 1 - 1 = k - 1 by omega]; exact hJs⟩
        case measure => simp [intOf]; omega
    · obtain rfl : k = 9 := by omega
      gi_wp2
      rw [Exit.noGoto_normal]
      go_end0
      exact ⟨⟨_, rfl⟩, .inl ⟨_, rfl, hJs⟩⟩
end Go.Proofs.Ytoiaecfiinkmjaa
