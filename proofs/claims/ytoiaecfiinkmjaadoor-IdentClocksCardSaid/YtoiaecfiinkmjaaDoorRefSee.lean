/- gessoref11.See: its contract. -/
import Derived.Test.YtoiaecfiinkmjaaDoorRefClk
namespace Go.Proofs.YtoiaecfiinkmjaaDoor
open Go.RowKit Go.Shelf

set_option maxRecDepth 100000 in
set_option maxHeartbeats 2000000 in
theorem RSee_run (s t q : Int) (a : Option Addr) (n c : Nat) (L : List Int) (w : World) (hS : RowS encU 1 w a n L) :
    Calls Tryd.prog 23 #[clkV s t q, .slice a n c] w fun e w' =>
      ((∀ x ∈ L, x ≤ maxT) ∧ Ret (.tuple #[clkV s (maxL t L) q, .bool true]) w e w') ∨ ((∃ x ∈ L, ¬ x ≤ maxT) ∧ Ret (.tuple #[clkV 0 0 0, .bool false]) w e w') := by
  obtain ⟨rfl, hbig, hL⟩ := hS
  have HL := Lib.hid hL
  clear hL
  have b0 := (Blk.new w 41 (clkC s t q)).alloc (.cells (clkC 0 0 0) 41)
  have b1 := Blk.new (w.alloc (.cells (clkC s t q) 41)) 41 (clkC 0 0 0)
  simp only [World.size_alloc] at b1
  have B0 := Lib.hid b0
  have B1 := Lib.hid b1
  have HB : Hid (Below w.heap.size w ((w.alloc (.cells (clkC s t q) 41)).alloc (.cells (clkC 0 0 0) 41))) := by show Below _ _ _; go_grown
  clear b0 b1
  go_enter Tryd.func23, Tryd.ntmps23
  go_wp2_with fail
  go_loopw [10] (fun i wr => ∃ k : Nat, k ≤ L.length ∧ i = .int .i64 k ∧ Hid (∀ x ∈ L.take k, x ≤ maxT) ∧ Blk wr w.heap.size 41 (clkC s (maxL t (L.take k)) q) ∧ Blk wr (w.heap.size + 1) 41 (clkC 0 0 0) ∧ Below w.heap.size w wr) (fun i _ => L.length - (intOf i).toNat)
  case atStart => exact ⟨0, Nat.zero_le _, rfl, (fun x hx => by simp at hx), B0.out, B1.out, HB.out⟩
  case round =>
    obtain ⟨k, hk, rfl, HA, hk0, hk1, hB⟩ := hrel
    clear B0 B1 HB
    by_cases hlt : k < L.length
    · obtain ⟨b, off, rfl, hbl, hv⟩ := HL.out.resolve_left (fun e => by rw [e] at hlt; simp at hlt)
      obtain ⟨x, hx⟩ : ∃ x, L[k]? = some x := ⟨_, List.getElem?_eq_getElem hlt⟩
      have x0 : wr.cell? ⟨b, off + k, none⟩ = some (.int .u64 x) := (hB.cell (p := ⟨b, off + k, none⟩) hbl).trans (by have := hv k x hx 0 _ rfl; rwa [Nat.mul_one] at this)
      have HTK : Hid (L.take (k + 1) = L.take k ++ [x]) := by show _ = _; rw [List.take_add_one, hx]; rfl
      have HXM : Hid (x ∈ L) := List.mem_of_getElem? hx
      have HB := Lib.hid hB
      have K0 := Lib.hid hk0
      have K1 := Lib.hid hk1
      clear hB hk0 hk1 hv hx
      by_cases hxm : x ≤ maxT
      · have HXX := Lib.hid hxm
        have hd : decide (4611686018427387904 < x) = false := by unfold maxT at hxm; simp; omega
        clear hxm
        generalize hT : maxL t (L.take k) = T at K0
        have HTT := Lib.hid hT
        clear hT
        have c1 := K0.out.cell 1
        have f1 := K0.out.frozen 1
        simp at c1
        by_cases hgt : T < x
        · have hd2 : decide (T < x) = true := by simpa using hgt
          go_wp2_with fail
          go_roundw
          case rel =>
            refine ⟨k + 1, by omega, by go_num, ?_, ?_, K1.out.set_other (p := ⟨w.heap.size, 1, none⟩) (by simp) _, HB.out.setCell (p := ⟨w.heap.size, 1, none⟩) (by simp) _⟩
            · show ∀ y ∈ L.take (k + 1), y ≤ maxT
              intro y hy
              rw [HTK.out] at hy
              rcases List.mem_append.1 hy with hy | hy
              · exact HA.out y hy
              · obtain rfl : y = x := by simpa using hy
                exact HXX.out
            · rw [HTK.out, maxL_snoc, HTT.out, show max T x = x by omega]
              exact K0.out.set 1 _
          case measure => simp [intOf]; omega
        · have hd2 : decide (T < x) = false := by simpa using hgt
          go_wp2_with fail
          go_roundw
          case rel =>
            refine ⟨k + 1, by omega, by go_num, ?_, ?_, K1.out, HB.out⟩
            · show ∀ y ∈ L.take (k + 1), y ≤ maxT
              intro y hy
              rw [HTK.out] at hy
              rcases List.mem_append.1 hy with hy | hy
              · exact HA.out y hy
              · obtain rfl : y = x := by simpa using hy
                exact HXX.out
            · rw [HTK.out, maxL_snoc, HTT.out, show max T x = T by omega]
              exact K0.out
          case measure => simp [intOf]; omega
      · have HXX := Lib.hid hxm
        have hd : decide (4611686018427387904 < x) = true := by unfold maxT at hxm; simp; omega
        clear hxm
        go_wp2_with (refine L_kstore (.tmp 4) (.tmp 16) 0 0 0 rfl rfl K1.out ?_)
        refine bodyPost_ret (v := .tuple #[clkV 0 0 0, .bool false]) (results_ctR rfl _ _ rfl (K1.out.row (clkC 0 0 0)).kload rfl) rfl (.inr ⟨⟨x, HXM.out, HXX.out⟩, rfl, below_setRowK HB.out (by omega) _⟩)
    · obtain rfl : k = L.length := by omega
      rw [List.take_length] at hk0
      have HA2 : Hid (∀ x ∈ L, x ≤ maxT) := by have := HA.out; rwa [List.take_length] at this
      have HB := Lib.hid hB
      have K0 := Lib.hid hk0
      have K1 := Lib.hid hk1
      clear hB hk0 hk1 HA
      generalize hT : maxL t L = T at K0
      have HTT := Lib.hid hT
      clear hT
      have c0 := K0.out.cell 0
      have c1 := K0.out.cell 1
      have c2 := K0.out.cell 2
      simp at c0 c1 c2
      go_wp2_with (refine L_kstore (.tmp 4) (.tmp 24) s T q rfl rfl K1.out ?_)
      refine bodyPost_ret (v := .tuple #[clkV s T q, .bool true]) (results_ctR rfl _ _ rfl (K1.out.row (clkC s T q)).kload rfl) rfl (.inl ⟨HA2.out, by rw [HTT.out], below_setRowK HB.out (by omega) _⟩)
end Go.Proofs.YtoiaecfiinkmjaaDoor
