/- vector.merged where it leaves with an error, and over no vectors. -/
import Derived.Test.YtoiaecfiinkmjaaMerged
namespace Go.Proofs.Ytoiaecfiinkmjaa
open Go.RowKit Go.Shelf

set_option maxRecDepth 100000 in
set_option maxHeartbeats 1000000 in
theorem merged_bad0 (F : FuncId) (f : Nat → Int) (a : Option Addr) (n cap : Nat) (w : World) (hbad : okVec f = false) :
    Calls Try.prog 35 #[vec f, .slice a n cap, .func (.func F) #[] #[], .func (.func 37) #[] #[]] w (Panics 230 w) := by
  go_enter Try.func35, Try.ntmps35
  unfold vec
  go_wp2_with (first | (go_at_call 12; refine (Check_bad f hbad _).mono ?_; rintro e W ⟨rfl, hb'⟩) | (go_at_call 43; refine (need_false _ _).mono ?_; rintro e w' ⟨rfl, rfl⟩))
  refine ⟨rfl, rfl, Below.trans (by go_grown) (hb'.mono (by simp; omega))⟩

set_option maxRecDepth 100000 in
set_option maxHeartbeats 1000000 in
theorem merged_bad1 (F : FuncId) (f : Nat → Int) (b off cap : Nat) (L : List (Nat → Int)) (w : World) (hb : b < w.heap.size) (hL : Vecs w b off L) (hlen : L.length ≤ 15637498706136) (hok : okVec f = true) (hbad : ∃ l ∈ L, okVec l = false) :
    Calls Try.prog 35 #[vec f, .slice (some ⟨b, off, none⟩) L.length cap, .func (.func F) #[] #[], .func (.func 37) #[] #[]] w (Panics 230 w) := by
  have HL := Lib.hid hL
  have HA := Lib.hid hbad
  clear hL hbad
  go_enter Try.func35, Try.ntmps35
  unfold vec
  go_wp2_with (first | (go_at_call 12; refine (Check_ok f hok _).mono ?_; rintro e W ⟨rfl, hb'⟩) | (go_at_call 43; refine (need_true _ _).mono ?_; rintro e w' ⟨rfl, rfl⟩))
  have hsW : w.heap.size + 2 ≤ W.heap.size := by have := hb'.size; simp at this; omega
  have HBw : Hid (Below w.heap.size w W) := Below.trans (by go_grown) (hb'.mono (by simp; omega))
  clear hb'
  go_loopw [20] (fun i wr => ∃ k : Nat, k ≤ L.length ∧ i = .int .i64 k ∧ (∀ j (h : j < k) (h2 : j < L.length), okVec L[j] = true) ∧ Below (w.heap.size + 2) W wr) (fun i _ => L.length - (intOf i).toNat)
  case atStart => exact ⟨0, Nat.zero_le _, rfl, fun j h => by omega, Below.refl _ _⟩
  case round =>
    obtain ⟨k, hk, rfl, hoks, hB⟩ := hrel
    have hsr : w.heap.size + 2 ≤ wr.heap.size := by have := hB.size; omega
    have HO := Lib.hid hoks
    clear hoks
    have hlt : k < L.length := by
      rcases Nat.lt_or_ge k L.length with h | h
      · exact h
      · obtain ⟨l, hl, hlb⟩ := HA.out
        obtain ⟨j, hj, rfl⟩ := List.getElem_of_mem hl
        rw [HO.out j (by omega) hj] at hlb; cases hlb
    have hc : ∀ j, j < 9 → wr.cell? ⟨b, off + k * 9 + j, none⟩ = some (.int .u64 (L[k] j)) := fun j hj => by
      rw [hB.cell (p := ⟨b, off + k * 9 + j, none⟩) (by simp; omega), HBw.out.cell (p := ⟨b, off + k * 9 + j, none⟩) hb]
      exact HL.out k L[k] (by simp [hlt]) j hj
    have HC := Lib.hid hc
    clear hc
    by_cases hokl : okVec L[k] = true
    · have HO2 : Hid (∀ j (h : j < k + 1) (h2 : j < L.length), okVec L[j] = true) := fun j h h2 => by
        by_cases hjk : j = k
        · subst hjk; exact hokl
        · exact HO.out j (by omega) h2
      generalize L[k] = l at HC hokl
      go_wp2_with (first | (refine L_vload_at 23 (.tmp 22) l rfl HC.out ?_; unfold vec) | (refine L_vstore_new (.tmp 10) (.tmp 23) l rfl rfl ?_; unfold vecC) | (go_at_call 12; refine (Check_ok l hokl _).mono ?_; rintro e W1 ⟨rfl, hb1⟩) | (go_at_call 43; refine (need_true _ _).mono ?_; rintro e w' ⟨rfl, rfl⟩))
      go_roundw
      case rel => exact ⟨k + 1, by omega, by go_num, HO2.out, hB.trans (Below.trans (by go_grown) (hb1.mono (by have := hB.size; simp; omega)))⟩
      case measure => simp [intOf]; omega
    · have hbl : okVec L[k] = false := by simpa using hokl
      clear hokl
      generalize L[k] = l at HC hbl
      go_wp2_with (first | (refine L_vload_at 23 (.tmp 22) l rfl HC.out ?_; unfold vec) | (refine L_vstore_new (.tmp 10) (.tmp 23) l rfl rfl ?_; unfold vecC) | (go_at_call 12; refine (Check_bad l hbl _).mono ?_; rintro e W1 ⟨rfl, hb1⟩) | (go_at_call 43; refine (need_false _ _).mono ?_; rintro e w' ⟨rfl, rfl⟩))
      refine ⟨rfl, rfl, HBw.out.trans ((hB.mono (by omega)).trans (Below.trans (by go_grown) (hb1.mono (by have := hB.size; simp; omega))))⟩

set_option maxRecDepth 100000 in
set_option maxHeartbeats 1000000 in
theorem merged_nil (F : FuncId) (f : Nat → Int) (cap : Nat) (a : Option Addr) (w : World) (hok : okVec f = true) :
    Calls Try.prog 35 #[vec f, .slice a 0 cap, .func (.func F) #[] #[], .func (.func 37) #[] #[]] w (Ret (vec f) w) := by
  go_enter Try.func35, Try.ntmps35
  unfold vec
  go_wp2_with (first | (go_at_call 12; refine (Check_ok f hok _).mono ?_; rintro e W ⟨rfl, hb'⟩) | (go_at_call 43; refine (need_true _ _).mono ?_; rintro e w' ⟨rfl, rfl⟩))
  have b0 := ((Blk.new w 24 (vecC f)).alloc (.cells (vecC fun _ => 0) 24)).below hb' (by simp; omega)
  have b1 := (Blk.new (w.alloc (.cells (vecC f) 24)) 24 (vecC fun _ => 0)).below hb' (by simp)
  rw [World.size_alloc] at b1
  have HBw : Hid (Below w.heap.size w W) := Below.trans (by go_grown) (hb'.mono (by simp; omega))
  have C0 := Lib.hid b0
  have C1 := Lib.hid b1
  clear hb' b0 b1
  go_rounds 1
  refine wp_loop_rounds 1 ?_
  rw [rounds_succ]
  go_wp2_with (first | (refine L_vload 52 (.tmp 4) rfl C0.out ?_; unfold vec) | (refine L_vstore (.tmp 8) (.tmp 52) f rfl rfl C1.out ?_))
  exact bodyPost_ret (v := vec f) (results_cell1 rfl _ _ rfl (C1.out.row (vecC f)).vload) rfl ⟨rfl, below_setRow HBw.out (by omega) _⟩
end Go.Proofs.Ytoiaecfiinkmjaa
