/- vector.Of: its contract. -/
import Derived.Test.YtoiaecfiinkmjaaRefWith
import Derived.Test.YtoiaecfiinkmjaaWakes
namespace Go.Proofs.Ytoiaecfiinkmjaa
open Go.RowKit Go.Shelf

theorem IdSl_of {W : World} {a : Option Addr} {n : Nat} {L : List Idn} (h : RowS encId 3 W a n L) (hl : L.length ≤ 1000) : IdSl W a n L := by
  obtain ⟨h1, _, h | ⟨b, off, ha, hlt, hv⟩⟩ := h
  · exact ⟨h1, by omega, .inl h⟩
  · exact ⟨h1, by omega, .inr ⟨b, off, ha, hlt, fun k i hi => ⟨hv k i hi 0 _ rfl, hv k i hi 1 _ rfl, hv k i hi 2 _ rfl⟩⟩⟩
theorem posV_wZ : posV wZ := fun k => by
  show 0 ≤ vl 0 0 0 0 0 0 0 0 0 k
  unfold vl
  split <;> exact Int.le_refl _
theorem sortIds_length (L : List Idn) : (sortIds L).length = L.length := by simp [sortIds]

set_option maxRecDepth 100000 in
set_option maxHeartbeats 1000000 in
theorem Of_any (a : Option Addr) (n c : Nat) (L : List Idn) (w : World) (hS : RowS encId 3 w a n L) (hlen : L.length ≤ 1000) :
    Calls Try.prog 30 #[.slice a n c] w (Ret (.tuple #[vec (withV wZ (sortIds L)).2, .int .i64 (withV wZ (sortIds L)).1]) w) := by
  have hp : posV wZ := posV_wZ
  have HS : Hid (RowS encId 3 (w.alloc (.cells (vecC wZ) 24)) a n L) := hS.below ((Below.refl _ _).alloc (Nat.le_refl _) _)
  have HB0 : Hid (Below w.heap.size w (w.alloc (.cells (vecC wZ) 24))) := (Below.refl _ _).alloc (Nat.le_refl _) _
  have HR0 := Lib.hid (Blk.new w 24 (vecC wZ))
  have HC := Lib.hid (fun W a c (h : RowS encId 3 W a n (sortIds L)) => With_any wZ hp a n c (sortIds L) W (IdSl_of h (by rw [sortIds_length]; exact hlen)))
  generalize (withV wZ (sortIds L)).2 = r at HC ⊢
  generalize (withV wZ (sortIds L)).1 = x at HC ⊢
  clear hS hp
  go_enter Try.func30, Try.ntmps30
  go_wp2_with fail
  refine (Sorted_any a n c L _ HS.out hlen).mono ?_
  rintro e W ⟨a', c', rfl, hr, hb⟩
  have HR1 := Lib.hid (HR0.out.below hb HR0.out.lt)
  have HB1 := Lib.hid (HB0.out.trans (hb.mono HB0.out.size))
  have HS1 := Lib.hid hr
  clear hr hb HS HB0 HR0
  go_wp2_with fail
  refine (HC.out W a' c' HS1.out).mono ?_
  rintro e W2 ⟨rfl, hb⟩
  have HR2 := Lib.hid (HR1.out.below hb HR1.out.lt)
  have HB2 := Lib.hid (HB1.out.trans (hb.mono HB1.out.size))
  clear hb HR1 HB1 HS1
  go_wp2_with (refine L_vstore (.tmp 2) (.tmp 8) r rfl rfl HR2.out ?_)
  refine bodyPost_ret (v := .tuple #[vec r, .int .i64 x]) (results_ct rfl _ _ rfl (HR2.out.row (vecC r)).vload rfl) rfl ?_
  exact ⟨rfl, below_setRow HB2.out (by omega) _⟩
end Go.Proofs.Ytoiaecfiinkmjaa
