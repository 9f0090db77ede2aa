/- gessoref13.Many: its contract. -/
import Derived.Test.YtoiaecfiinkmjaaRefCov
import Derived.Test.YtoiaecfiinkmjaaFills3
namespace Go.Proofs.Ytoiaecfiinkmjaa
open Go.RowKit Go.Shelf

set_option maxRecDepth 100000 in
set_option maxHeartbeats 1000000 in
theorem RMany_any (a : Option Addr) (n c : Nat) (L : List Str) (w : World) (hr : RowS encStr 3 w a n L) (hgood : ∀ x ∈ L, goodStr x) :
    Calls Try.prog 24 #[.slice a n c] w (Ret (.int .u64 (manyOf L)) w) := by
  obtain ⟨rfl, hlen, hr⟩ := hr
  have HR := Lib.hid hr
  have HG := Lib.hid hgood
  clear hr hgood
  go_enter Try.func24, Try.ntmps24
  go_wp2_with fail
  go_loopw [3, 9] (fun s i wr => ∃ k : Nat, k ≤ L.length ∧ i = .int .i64 k ∧ s = .int .u64 (4611686018427387904 - sumOf (L.take k)) ∧ sumOf (L.take k) < 4611686018427387904 ∧ Below w.heap.size w wr) (fun _ i _ => L.length - (intOf i).toNat)
  case atStart => exact ⟨0, by omega, rfl, rfl, by simp [sumOf], Below.refl _ _⟩
  case round =>
    obtain ⟨k, hk, rfl, rfl, hlt0, hBr⟩ := hrel
    by_cases hlt : k < L.length
    · obtain ⟨b, off, rfl, hbl, hc⟩ := HR.out.resolve_left (fun e => by rw [e] at hlt; simp at hlt)
      obtain ⟨x, hx⟩ : ∃ x, L[k]? = some x := ⟨_, List.getElem?_eq_getElem hlt⟩
      have hc0 : wr.cell? ⟨b, off + k * 3, none⟩ = some (.int .i64 x.s) := (hBr.cell (p := ⟨b, off + k * 3, none⟩) hbl).trans (hc k x hx 0 _ rfl)
      have hc1 : wr.cell? ⟨b, off + k * 3 + 1, none⟩ = some (.int .u64 x.a) := (hBr.cell (p := ⟨b, off + k * 3 + 1, none⟩) hbl).trans (hc k x hx 1 _ rfl)
      have hc2 : wr.cell? ⟨b, off + k * 3 + 2, none⟩ = some (.int .u64 x.b) := (hBr.cell (p := ⟨b, off + k * 3 + 2, none⟩) hbl).trans (hc k x hx 2 _ rfl)
      have hgx : goodStr x := HG.out x (List.mem_of_getElem? hx)
      have hsn : sumOf (L.take (k + 1)) = sumOf (L.take k) + (x.b - x.a + 1) := by rw [List.take_add_one, hx]; exact sumOf_snoc _ _
      have hs0 := (sum_take HG.out k).1
      have hs1 := (sum_take HG.out (k + 1)).2
      have hm := manyOf_sum HG.out
      rw [hsn] at hs1
      unfold goodStr maxT at hgx
      unfold maxT at hm
      have w1 : IntKind.u64.wrap (x.b - x.a) = x.b - x.a := IntWalk.u64_in _ (by omega)
      have w2 : IntKind.u64.wrap (x.b - x.a + 1) = x.b - x.a + 1 := IntWalk.u64_in _ (by omega)
      have HSN := Lib.hid hsn
      have HM := Lib.hid (And.intro hm (And.intro hs0 hs1))
      have HBr := Lib.hid hBr
      have HL0 := Lib.hid hlt0
      have HGX := Lib.hid hgx
      clear hc hx hsn hs0 hs1 hm hBr hlt0 hgx
      generalize sumOf (L.take k) = c0 at HSN HM HL0 ⊢
      by_cases hge : 4611686018427387904 - c0 ≤ x.b - x.a + 1
      · have hv : Hid (manyOf L = 4611686018427387904) := by show manyOf L = _; have := HM.out; omega
        go_wp2
        go_ret
        exact ⟨by rw [hv.out]; rfl, HBr.out.alloc HBr.out.size _⟩
      · have w3 : IntKind.u64.wrap (4611686018427387904 - c0 - (x.b - x.a + 1)) = 4611686018427387904 - c0 - (x.b - x.a + 1) := IntWalk.u64_in _ (by have := HM.out; have := HGX.out; omega)
        go_wp2
        go_roundw
        case rel => exact ⟨k + 1, by omega, by go_num, by rw [HSN.out]; congr 1; omega, by rw [HSN.out]; omega, HBr.out.alloc HBr.out.size _⟩
        case measure => simp [intOf]; omega
    · obtain rfl : k = L.length := by omega
      rw [List.take_length] at hlt0 ⊢
      have hs := (sum_take HG.out L.length).1
      rw [List.take_length] at hs
      have hm := manyOf_sum HG.out
      unfold maxT at hm
      have hv : Hid (manyOf L = 4611686018427387904 - (4611686018427387904 - sumOf L)) := by show manyOf L = _; omega
      have w1 : IntKind.u64.wrap (4611686018427387904 - (4611686018427387904 - sumOf L)) = 4611686018427387904 - (4611686018427387904 - sumOf L) := IntWalk.u64_in _ (by omega)
      have HBr := Lib.hid hBr
      clear hBr hm hs hlt0
      go_wp2
      go_ret
      exact ⟨by rw [hv.out]; rfl, HBr.out⟩
end Go.Proofs.Ytoiaecfiinkmjaa
