/- vector.merged: its contract. -/
import Derived.Test.YtoiaecfiinkmjaaTries
import Derived.StillTailTactics
namespace Go.Proofs.Ytoiaecfiinkmjaa
open Go.RowKit Go.Shelf

/-- the vectors of a row in memory. -/
def Vecs (W : World) (b off : Nat) (L : List (Nat → Int)) : Prop := ∀ i f, L[i]? = some f → ∀ k, k < 9 → W.cell? ⟨b, off + i * 9 + k, none⟩ = some (.int .u64 (f k))

set_option maxRecDepth 100000 in
set_option maxHeartbeats 1000000 in
theorem merged_any (F : FuncId) (op : Int → Int → Int) (hent : ∀ args w, (callFunc F args).run Try.prog w = .ok (.enter F args) w)
    (hop : ∀ m n W, Calls Try.prog F #[.int .u64 m, .int .u64 n] W fun e w' => e = .returned (.int .u64 (op m n)) ∧ W = w')
    (f : Nat → Int) (b off cap : Nat) (L : List (Nat → Int)) (w : World) (hb : b < w.heap.size) (hL : Vecs w b off L) (hlen : L.length ≤ 15637498706136) (hok : okVec f = true) (hall : ∀ l ∈ L, okVec l = true) :
    Calls Try.prog 35 #[vec f, .slice (some ⟨b, off, none⟩) L.length cap, .func (.func F) #[] #[], .func (.func 37) #[] #[]] w (Ret (vec fun k => L.foldl (fun x l => op x (l k)) (f k)) w) := by
  have HOP := Lib.hid hop
  have HL := Lib.hid hL
  have HA := Lib.hid hall
  clear hop hL hall
  go_enter Try.func35, Try.ntmps35
  unfold vec
  go_wp2_with (first | (go_at_call 12; refine (Check_ok f hok _).mono ?_; rintro e W ⟨rfl, hb'⟩) | (go_at_call 43; refine (need_true _ _).mono ?_; rintro e w' ⟨rfl, rfl⟩))
  have hsW : w.heap.size + 2 ≤ W.heap.size := by have := hb'.size; simp at this; omega
  have HBw : Hid (Below w.heap.size w W) := Below.trans (by go_grown) (hb'.mono (by simp; omega))
  go_loopw [20] (fun i wr => ∃ k : Nat, k ≤ L.length ∧ i = .int .i64 k ∧ Below (w.heap.size + 2) W wr) (fun i _ => L.length - (intOf i).toNat)
  case atStart => exact ⟨0, Nat.zero_le _, rfl, Below.refl _ _⟩
  case round =>
    obtain ⟨k, hk, rfl, hB⟩ := hrel
    have hsr : w.heap.size + 2 ≤ wr.heap.size := by have := hB.size; omega
    by_cases hlt : k < L.length
    · have hc : ∀ j, j < 9 → wr.cell? ⟨b, off + k * 9 + j, none⟩ = some (.int .u64 (L[k] j)) := fun j hj => by
        rw [hB.cell (p := ⟨b, off + k * 9 + j, none⟩) (by simp; omega), HBw.out.cell (p := ⟨b, off + k * 9 + j, none⟩) hb]
        exact HL.out k L[k] (by simp [hlt]) j hj
      have HC := Lib.hid hc
      clear hc
      have hokl : okVec L[k] = true := HA.out _ (List.getElem_mem hlt)
      generalize L[k] = l at HC hokl
      go_wp2_with (first | (refine L_vload_at 23 (.tmp 22) l rfl HC.out ?_; unfold vec) | (refine L_vstore_new (.tmp 10) (.tmp 23) l rfl rfl ?_; unfold vecC) | (go_at_call 12; refine (Check_ok l hokl _).mono ?_; rintro e W1 ⟨rfl, hb1⟩) | (go_at_call 43; refine (need_true _ _).mono ?_; rintro e w' ⟨rfl, rfl⟩))
      go_roundw
      case rel => exact ⟨k + 1, by omega, by go_num, hB.trans (Below.trans (by go_grown) (hb1.mono (by have := hB.size; simp; omega)))⟩
      case measure => simp [intOf]; omega
    · have hk : k = L.length := by omega
      have b0 := ((Blk.new w 24 (vecC f)).alloc (.cells (vecC fun _ => 0) 24)).below hb' (by simp; omega) |>.below hB (by omega)
      have b1 := (Blk.new (w.alloc (.cells (vecC f) 24)) 24 (vecC fun _ => 0)).below hb' (by simp) |>.below hB (by simp)
      rw [World.size_alloc] at b1
      have HB := Lib.hid (HBw.out.trans (hB.mono (by omega)))
      have HK := Lib.hid hk
      have B0 := Lib.hid b0
      have B1 := Lib.hid b1
      clear b0 b1 hk hB hb' HBw
      go_wp2
      obtain ⟨wo, rfl⟩ : ∃ wo : World, wo = wr := ⟨_, rfl⟩
      go_loopw [31] (fun i wr => ∃ k : Nat, k ≤ L.length ∧ i = .int .i64 k ∧ Blk wr w.heap.size 24 (vecC fun j => (L.take k).foldl (fun x l => op x (l j)) (f j)) ∧ Blk wr (w.heap.size + 1) 24 (vecC fun _ => 0) ∧ Below w.heap.size w wr) (fun i _ => L.length - (intOf i).toNat)
      case atStart => exact ⟨0, Nat.zero_le _, rfl, by simpa using B0.out, B1.out, HB.out⟩
      case round =>
        obtain ⟨k2, hk2, rfl, c0, c1, hB⟩ := hrel
        by_cases hlt2 : k2 < L.length
        · have hc : ∀ j, j < 9 → wr.cell? ⟨b, off + k2 * 9 + j, none⟩ = some (.int .u64 (L[k2] j)) := fun j hj => by
            rw [hB.cell (p := ⟨b, off + k2 * 9 + j, none⟩) hb]
            exact HL.out k2 L[k2] (by simp [hlt2]) j hj
          have hg : ∀ j, (L.take (k2 + 1)).foldl (fun x l => op x (l j)) (f j) = op ((L.take k2).foldl (fun x l => op x (l j)) (f j)) (L[k2] j) := fun j => by
            rw [List.take_succ_eq_append_getElem hlt2, List.foldl_append]; rfl
          have HC := Lib.hid hc
          have HG := Lib.hid hg
          clear hc hg
          generalize L[k2] = l at HC HG
          have C0 := Lib.hid c0
          have C1 := Lib.hid c1
          have HBr := Lib.hid hB
          clear c0 c1 hB
          go_wp2_with (first | (refine L_vload_at 34 (.tmp 33) l rfl HC.out ?_; unfold vec) | (refine L_vstore_new (.tmp 12) (.tmp 34) l rfl rfl ?_; unfold vecC))
          have hq1 : w.heap.size + 1 < wr.heap.size := C1.out.lt
          have b2 := Blk.new wr 24 (vecC l)
          have d0 := C0.out.alloc (.cells (vecC l) 24)
          have d1 := C1.out.alloc (.cells (vecC l) 24)
          have hBx : Below w.heap.size w (wr.alloc (.cells (vecC l) 24)) := HBr.out.alloc (by omega) _
          unfold vecC at b2 d0 d1 hBx
          generalize wr.alloc _ = wx at b2 d0 d1 hBx ⊢
          generalize hq : wr.heap.size = q at b2 hq1 ⊢
          go_loopw [35] (fun i wz => ∃ m : Nat, m ≤ 9 ∧ i = .int .i64 m ∧ Blk wz w.heap.size 24 (vecC fun j => if j < m then (L.take (k2 + 1)).foldl (fun x l => op x (l j)) (f j) else (L.take k2).foldl (fun x l => op x (l j)) (f j)) ∧ Blk wz (w.heap.size + 1) 24 (vecC fun _ => 0) ∧ Blk wz q 24 (vecC l) ∧ Below w.heap.size w wz) (fun i _ => 9 - (intOf i).toNat)
          case atStart => exact ⟨0, by omega, rfl, by simpa [vecC] using d0, by simpa [vecC] using d1, by simpa [vecC] using b2, hBx⟩
          case round =>
            obtain ⟨m, hm, rfl, e0, e1, e2, hBz⟩ := hrel
            by_cases hm9 : m < 9
            · have hv := (e0.cell m).trans (vecC_get _ hm9)
              have hvf := e0.frozen m
              have hvw := (e2.cell m).trans (vecC_get _ hm9)
              simp only [Nat.lt_irrefl, if_false] at hv
              have E0 := Lib.hid e0
              have E1 := Lib.hid e1
              have E2 := Lib.hid e2
              have HBz := Lib.hid hBz
              clear e0 e1 e2 hBz d0 d1 b2 hBx
              generalize hA : (L.take k2).foldl (fun x l => op x (l m)) (f m) = A at hv
              have HAm := Lib.hid hA
              clear hA
              generalize hl : l m = Bm at hvw
              have HLm := Lib.hid hl
              clear hl
              go_wp2
              refine wp_region_still_tail 12 (by kernel_rfl) (by kernel_rfl) ?_
              simp only [List.take_succ_cons, List.take_zero, List.drop_succ_cons, List.drop_zero]
              repeat still_step
              still_call ((HOP.out _ _ _).mono fun _ _ h => ⟨h.1, h.2.symm⟩)
              still_call ((same_any _ _).mono fun _ _ h => ⟨h.1, h.2.symm⟩)
              repeat still_step
              refine wpStill_nil ?_
              change wpList _ _ _ _ _ wr.drew
              go_wp2
              go_roundw
              case rel =>
                refine ⟨m + 1, by omega, by go_num, ?_, ?_, ?_, ?_⟩
                · have := (E0.out.drew).set m (.int .u64 (op A Bm))
                  rw [vecC_set _ hm9] at this
                  refine cast (congrArg (Blk _ _ _) (vecC_ext fun j hj => ?_)) this
                  show (if j = m then _ else _) = _
                  by_cases hjm : j = m
                  · subst hjm
                    rw [if_pos rfl, if_pos (by omega), HG.out, HAm.out, HLm.out]
                  · rw [if_neg hjm]
                    by_cases h2 : j < m
                    · rw [if_pos h2, if_pos (by omega)]
                    · rw [if_neg h2, if_neg (by omega)]
                · exact E1.out.drew.set_other (by simp) _
                · exact E2.out.drew.set_other (by simp; omega) _
                · exact HBz.out.drew.setCell (p := ⟨w.heap.size, m, none⟩) (Nat.le_refl _) _
              case measure => simp [intOf]; omega
            · have E0 := Lib.hid e0
              have E1 := Lib.hid e1
              have HBz := Lib.hid hBz
              clear e0 e1 e2 hBz d0 d1 b2 hBx
              go_wp2
              go_roundw
              case rel =>
                refine ⟨k2 + 1, by omega, by go_num, ?_, E1.out, HBz.out⟩
                refine cast (congrArg (Blk _ _ _) (vecC_ext fun j hj => ?_)) E0.out
                rw [if_pos (by omega)]
              case measure => simp [intOf]; omega
        · have hkl : L.take k2 = L := List.take_of_length_le (by omega)
          have C0 := Lib.hid c0
          have C1 := Lib.hid c1
          have HBr := Lib.hid hB
          rw [hkl] at C0
          clear c0 c1 hB hkl
          show _
          generalize hr : (fun j => L.foldl (fun x l => op x (l j)) (f j)) = r at C0
          have HR := Lib.hid hr
          clear hr
          go_wp2_with (first | (refine L_vload 52 (.tmp 4) rfl C0.out ?_) | (refine L_vstore (.tmp 8) (.tmp 52) r rfl rfl C1.out ?_))
          refine bodyPost_ret (v := vec r) ?_ rfl ?_
          · exact results_cell1 rfl _ _ rfl (C1.out.row (vecC r)).vload
          · rw [← HR.out]
            exact ⟨rfl, below_setRow HBr.out (by omega) _⟩
end Go.Proofs.Ytoiaecfiinkmjaa
