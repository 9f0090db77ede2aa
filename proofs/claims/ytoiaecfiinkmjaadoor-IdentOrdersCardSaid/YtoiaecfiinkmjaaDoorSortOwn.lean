/- ident.Sorted: its contract, with what its row is: its own, and may be written. -/
import Derived.Test.YtoiaecfiinkmjaaDoorSorted
namespace Go.Proofs.YtoiaecfiinkmjaaDoor
open Go.RowKit Go.Shelf Go.Sort

/-- a row of the call's own, in order. -/
def SortedTo (n : Nat) (L : List Idn) (w : World) (e : Ending) (w' : World) : Prop :=
  ∃ a' c', e = .returned (.slice a' n c') ∧ RowS encId 3 w' a' n (sortIds L) ∧ Below w.heap.size w w' ∧ (L = [] ∨ ∃ g, a' = some ⟨g, 0, none⟩ ∧ w.heap.size ≤ g ∧ HoldsK encId 3 w' g 0 (sortIds L).toArray)
set_option maxRecDepth 100000 in
set_option maxHeartbeats 1000000 in
theorem Sorted_own (a : Option Addr) (n c : Nat) (L : List Idn) (w : World) (hS : RowS encId 3 w a n L) (hlen : L.length ≤ 1000) :
    Calls Tryd.prog 30 #[.slice a n c] w (SortedTo n L w) := by
  have hn := hS.1
  subst hn
  have hC := CloneOwnId a _ c L w hS hlen
  have HC := Lib.hid hC
  clear hC hS
  go_enter Tryd.func30, Tryd.ntmps30
  go_wp2_with fail
  refine HC.out.mono ?_
  rintro e w1 ⟨v, rfl, ho, hb⟩
  have ho0 := ho
  rcases ho.2 with ⟨rfl, h0⟩ | ⟨g, cap, cur, rfl, hg, hgg, h1, h2, h3, h4⟩
  · obtain rfl : L = [] := List.length_eq_zero_iff.1 h0
    have hnone := fun w => AnyF.slices_SortFunc_none Tryd.sortId none 0 (.func (.func 29) #[] #[]) w
    change ∀ w, Calls Tryd.prog 48 _ _ _ at hnone
    have HN := Lib.hid hnone
    have HB := Lib.hid hb
    clear hb ho ho0 hnone h0 HC
    go_wp2_with fail
    refine (HN.out _).mono ?_
    rintro e w2 ⟨rfl, rfl⟩
    go_wp2
    go_ret
    exact ⟨none, 0, rfl, ⟨by simp [sortIds], by simp [sortIds], .inl (by simp [sortIds])⟩, HB.out, .inl rfl⟩
  · have hH := holdsK_of_own (enc := encId) (k := 3) (by omega) (fun _ => rfl) ho0
    have hgl : g < w1.heap.size := (Array.getElem?_eq_some_iff.1 hgg).1
    have hcon := AnyQ.slices_SortFunc_total Tryd.sortId 3 Tryd.isAgg27 Tryd.sizeOf27 encId (fun _ => rfl) oneId cmpId swoId 29 #[] g 0 cap L.toArray w1 (enters_of Tryd.func29 (by kernel_rfl) rfl) (cmpLays_id _ _ _ _) hH hgl (by rw [List.size_toArray]; omega) (fun x y h1 h2 => by rw [lt_cmpId] at h1 h2; exact lessId_total x y h1 h2)
    change Calls Tryd.prog 48 _ _ _ at hcon
    simp only [List.size_toArray, lt_cmpId] at hcon
    have HN : Hid (Calls Tryd.prog 48 #[.slice (some ⟨g, 0, none⟩) L.length cap, .func (.func 29) #[] #[]] w1 fun e w' => e = .returned (.tuple #[]) ∧ ∃ n os, w' = sortWorldK encId 3 w1 g 0 n (sortIds L).toArray os) := hcon
    have HB := Lib.hid hb
    have HH := Lib.hid hH
    have HG := Lib.hid (And.intro hg hgl)
    clear hb ho ho0 hcon HC hH hg hgl hgg h1 h2 h3 h4
    go_wp2_with fail
    refine HN.out.mono ?_
    rintro e w2 ⟨rfl, m, os, hw⟩
    have hl : (sortIds L).length = L.length := by simp [sortIds]
    have hB2 : Below w.heap.size w w2 := by rw [hw]; exact HB.out.trans (below_sortWorldK encId 3 w1 g 0 m _ os HG.out.1 HB.out.size)
    have hHH : HoldsK encId 3 w2 g 0 (sortIds L).toArray := by
      rw [hw]
      exact holdsK_sortWorldK_c encId 3 w1 g 0 L.toArray (sortIds L).toArray m os HH.out HG.out.2 (by rw [List.size_toArray, List.size_toArray]; exact hl)
    have hR : RowS encId 3 w2 (some ⟨g, 0, none⟩) (sortIds L).length (sortIds L) := by
      rw [hw]
      exact rowS_of_holdsK (enc := encId) (k := 3) (fun _ => rfl) (by rw [hl]; omega) (Nat.lt_of_lt_of_le HG.out.2 (size_sortWorldK_c encId 3 w1 g 0 m (sortIds L).toArray os)) (holdsK_sortWorldK_c encId 3 w1 g 0 L.toArray (sortIds L).toArray m os HH.out HG.out.2 (by rw [List.size_toArray, List.size_toArray]; exact hl))
    rw [hl] at hR
    have HR := Lib.hid hR
    have HH2 := Lib.hid hHH
    have HGG := Lib.hid HG.out.1
    have HB2 := Lib.hid hB2
    clear hR hB2 hHH HN HB HH HG hl hw
    go_wp2
    go_ret
    exact ⟨_, _, rfl, HR.out, HB2.out, .inr ⟨g, rfl, HGG.out, HH2.out⟩⟩
end Go.Proofs.YtoiaecfiinkmjaaDoor
