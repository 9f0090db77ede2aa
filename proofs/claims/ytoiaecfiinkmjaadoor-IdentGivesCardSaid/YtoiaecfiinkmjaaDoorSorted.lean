/- ident.Sorted: its contract, over the kit's contract of slices.SortFunc. -/
import Derived.Test.YtoiaecfiinkmjaaDoorShelfSort
import Derived.Test.YtoiaecfiinkmjaaDoorCmp
namespace Go.Proofs.YtoiaecfiinkmjaaDoor
open Go.RowKit Go.Shelf Go.Sort

theorem cmpI_neg (x y : Int) : (cmpI x y < 0) ↔ x < y := by unfold cmpI; split <;> (try split) <;> omega
theorem cmpI_zero (x y : Int) : cmpI x y = 0 ↔ x = y := by unfold cmpI; split <;> (try split) <;> omega
/-- does one id stand ahead? -/
def lessId (x y : Idn) : Bool := if x.t = y.t then (if x.s = y.s then decide (x.q < y.q) else decide (x.s < y.s)) else decide (x.t < y.t)
theorem eqId_iff (x y : Idn) : eqId x y = true ↔ x = y := by
  obtain ⟨a, b, c⟩ := x
  obtain ⟨d, e, f⟩ := y
  simp [eqId]
theorem lt_cmpId (x y : Idn) : ltOf cmpId x y = lessId x y := by
  unfold ltOf cmpId lessId orI
  rw [Bool.eq_iff_iff]
  by_cases he : eqId x y = true
  · obtain rfl := (eqId_iff x y).1 he
    simp [he]
  · rw [if_neg he]
    by_cases h1 : x.t = y.t
    · rw [if_pos ((cmpI_zero _ _).2 h1), if_pos h1]
      by_cases h2 : x.s = y.s
      · rw [if_pos ((cmpI_zero _ _).2 h2), if_pos h2]
        simp [cmpI_neg]
      · rw [if_neg (fun h => h2 ((cmpI_zero _ _).1 h)), if_neg h2]
        simp [cmpI_neg]
    · rw [if_neg (fun h => h1 ((cmpI_zero _ _).1 h)), if_neg h1]
      simp [cmpI_neg]
theorem lessId_irrefl (x : Idn) : lessId x x = false := by simp [lessId]
theorem lessId_iff (x y : Idn) : lessId x y = true ↔ x.t < y.t ∨ (x.t = y.t ∧ (x.s < y.s ∨ (x.s = y.s ∧ x.q < y.q))) := by
  unfold lessId
  split
  · split <;> simp only [decide_eq_true_eq] <;> omega
  · simp only [decide_eq_true_eq]; omega
theorem lessId_not (x y : Idn) : lessId x y = false ↔ y.t < x.t ∨ (x.t = y.t ∧ (y.s < x.s ∨ (x.s = y.s ∧ y.q ≤ x.q))) := by
  rw [← Bool.not_eq_true, lessId_iff]; omega
theorem lessId_total (x y : Idn) (h1 : lessId x y = false) (h2 : lessId y x = false) : x = y := by
  obtain ⟨a, b, c⟩ := x
  obtain ⟨d, e, f⟩ := y
  rw [lessId_not] at h1 h2
  simp only at h1 h2
  simp only [Idn.mk.injEq]; omega
theorem swoId : SWO (ltOf cmpId) where
  irrefl x := by rw [lt_cmpId]; exact lessId_irrefl x
  trans x y z h1 h2 := by rw [lt_cmpId, lessId_iff] at *; omega
  ntrans x y z h1 h2 := by rw [lt_cmpId, lessId_not] at *; omega

/-- ids as they stand. -/
def sortIds (L : List Idn) : List Idn := L.mergeSort fun x y => !lessId y x

theorem cmpLays_id (blk off size : Nat) (w : World) : CmpLays Tryd.prog 29 #[] encId 3 cmpId blk off size w :=
  fun _ _ _ _ x y => Compare_lays x y _

theorem below_mapBlock {B : Nat} (w : World) (blk : Nat) (f : Array Value → Array Value) (h : B ≤ blk) : Below B w (mapBlock w blk f) :=
  ⟨rfl, rfl, rfl, by simp [mapBlock], fun k hk => by simp only [mapBlock, Array.getElem?_modify]; rw [if_neg (by omega)]⟩
theorem below_ahead {B : Nat} (w : World) (n : Nat) : Below B w (Go.Sort.ahead w n) := ⟨rfl, rfl, rfl, Nat.le_refl _, fun _ _ => rfl⟩
theorem below_grow {B : Nat} (w : World) (os : Array Obj) (h : B ≤ w.heap.size) : Below B w (grow w os) := ⟨rfl, rfl, rfl, by simp, fun k hk => heap_grow_old w os (by omega)⟩
theorem below_sortWorldK {α : Type} [Inhabited α] {B : Nat} (enc : α → List Value) (k : Nat) (w : World) (blk off m : Nat) (d : Array α) (os : Array Obj) (h : B ≤ blk) (hB : B ≤ w.heap.size) : Below B w (sortWorldK enc k w blk off m d os) := by
  have h1 : Below B w (putRowK enc k (Go.Sort.ahead w m) blk off d) := (below_ahead w m).trans (below_mapBlock _ _ _ h)
  exact h1.trans (below_grow _ _ (Nat.le_trans hB h1.size))

/-- a row of the call's own holds its elements, and may be written. -/
theorem holdsK_of_own {α : Type} [Inhabited α] {enc : α → List Value} {k : Nat} (hk0 : 0 < k) (hk : ∀ x, (enc x).length = k) {W : World} {B g c n : Nat} {E : TypeId} {L : List α} (h : W.ownsRow B E k (.slice (some ⟨g, 0, none⟩) n c) n (L.flatMap enc)) : HoldsK enc k W g 0 L.toArray := by
  have hl := h.1
  rw [flat_length hk] at hl
  have hn : L.length = n := Nat.eq_of_mul_eq_mul_right hk0 hl
  rcases h.2 with ⟨h0, _⟩ | ⟨g', cap, cur, hv, _, hg, hnc, _, hcs, htake⟩
  · cases h0
  · cases hv
    intro j hj
    rw [size_flatK, List.size_toArray] at hj
    have hj' : j < (L.flatMap enc).length := by rw [flat_length hk]; exact hj
    refine ⟨?_, frozen_of_row W g _ cur E hg⟩
    rw [Nat.zero_add, cell_of_row W g j cur E (0, 0) hg, get_flatK _ _ _ _ (by rw [List.size_toArray]; exact hj)]
    have hi : j / k < L.length := (Nat.div_lt_iff_lt_mul hk0).2 hj
    have hr : j % k < k := Nat.mod_lt _ hk0
    have he : j / k * k + j % k = j := by rw [Nat.mul_comm]; exact Nat.div_add_mod j k
    have h3 := flat_get hk L (j / k) _ (List.getElem?_eq_getElem hi) (j % k) _ (List.getElem?_eq_getElem (by rw [hk]; exact hr))
    rw [he, ← htake, List.getElem?_take_of_lt (by omega)] at h3
    rw [← Array.getElem?_toList, h3]
    simp [hi, hr, hk]

/-- the row behind the sort. -/
theorem rowS_of_holdsK {α : Type} [Inhabited α] {enc : α → List Value} {k : Nat} (hk : ∀ x, (enc x).length = k) {W : World} {g : Nat} {L : List α} (hlen : L.length ≤ 9223372036854775807) (hg : g < W.heap.size) (h : HoldsK enc k W g 0 L.toArray) : RowS enc k W (some ⟨g, 0, none⟩) L.length L := by
  refine ⟨rfl, hlen, .inr ⟨g, 0, rfl, hg, fun j x hj i v hi => ?_⟩⟩
  have hjl : j < L.length := (List.getElem?_eq_some_iff.1 hj).1
  have hik : i < k := by have := (List.getElem?_eq_some_iff.1 hi).1; rwa [hk] at this
  rw [(h.cell (i := j) (c := i) (by simpa using hjl) hik).1]
  have hx : L[j] = x := (List.getElem?_eq_some_iff.1 hj).2
  have hv : (enc x)[i]'(by rw [hk]; exact hik) = v := (List.getElem?_eq_some_iff.1 hi).2
  simp [hjl, hx, ← hv, hk, hik]

set_option maxRecDepth 100000 in
set_option maxHeartbeats 1000000 in
theorem Sorted_any (a : Option Addr) (n c : Nat) (L : List Idn) (w : World) (hS : RowS encId 3 w a n L) (hlen : L.length ≤ 1000) :
    Calls Tryd.prog 30 #[.slice a n c] w (Cloned encId 3 n (sortIds L) w) := by
  have hn := hS.1
  subst hn
  have hC := CloneOwnId a _ c L w hS hlen
  have HC := Lib.hid hC
  clear hC hS
  go_enter Tryd.func30, Tryd.ntmps30
  go_wp2_with fail
  refine HC.out.mono ?_
  rintro e w1 ⟨v, rfl, ho, hb⟩
  have ho0 := ho
  rcases ho.2 with ⟨rfl, h0⟩ | ⟨g, cap, cur, rfl, hg, hgg, h1, h2, h3, h4⟩
  · obtain rfl : L = [] := List.length_eq_zero_iff.1 h0
    have hnone := fun w => AnyF.slices_SortFunc_none Tryd.sortId none 0 (.func (.func 29) #[] #[]) w
    change ∀ w, Calls Tryd.prog 48 _ _ _ at hnone
    have HN := Lib.hid hnone
    have HB := Lib.hid hb
    clear hb ho ho0 hnone h0 HC
    go_wp2_with fail
    refine (HN.out _).mono ?_
    rintro e w2 ⟨rfl, rfl⟩
    go_wp2
    go_ret
    exact ⟨none, 0, rfl, ⟨by simp [sortIds], by simp [sortIds], .inl (by simp [sortIds])⟩, HB.out⟩
  · have hH := holdsK_of_own (enc := encId) (k := 3) (by omega) (fun _ => rfl) ho0
    have hgl : g < w1.heap.size := (Array.getElem?_eq_some_iff.1 hgg).1
    have hcon := AnyQ.slices_SortFunc_total Tryd.sortId 3 Tryd.isAgg27 Tryd.sizeOf27 encId (fun _ => rfl) oneId cmpId swoId 29 #[] g 0 cap L.toArray w1 (enters_of Tryd.func29 (by kernel_rfl) rfl) (cmpLays_id _ _ _ _) hH hgl (by rw [List.size_toArray]; omega) (fun x y h1 h2 => by rw [lt_cmpId] at h1 h2; exact lessId_total x y h1 h2)
    change Calls Tryd.prog 48 _ _ _ at hcon
    simp only [List.size_toArray, lt_cmpId] at hcon
    have HN : Hid (Calls Tryd.prog 48 #[.slice (some ⟨g, 0, none⟩) L.length cap, .func (.func 29) #[] #[]] w1 fun e w' => e = .returned (.tuple #[]) ∧ ∃ n os, w' = sortWorldK encId 3 w1 g 0 n (sortIds L).toArray os) := hcon
    have HB := Lib.hid hb
    have HH := Lib.hid hH
    have HG := Lib.hid (And.intro hg hgl)
    clear hb ho ho0 hcon HC hH hg hgl hgg h1 h2 h3 h4
    go_wp2_with fail
    refine HN.out.mono ?_
    rintro e w2 ⟨rfl, m, os, hw⟩
    have hl : (sortIds L).length = L.length := by simp [sortIds]
    have hB2 : Below w.heap.size w w2 := by rw [hw]; exact HB.out.trans (below_sortWorldK encId 3 w1 g 0 m _ os HG.out.1 HB.out.size)
    have hR : RowS encId 3 w2 (some ⟨g, 0, none⟩) (sortIds L).length (sortIds L) := by
      rw [hw]
      exact rowS_of_holdsK (enc := encId) (k := 3) (fun _ => rfl) (by rw [hl]; omega) (Nat.lt_of_lt_of_le HG.out.2 (size_sortWorldK_c encId 3 w1 g 0 m (sortIds L).toArray os)) (holdsK_sortWorldK_c encId 3 w1 g 0 L.toArray (sortIds L).toArray m os HH.out HG.out.2 (by rw [List.size_toArray, List.size_toArray]; exact hl))
    rw [hl] at hR
    have HR := Lib.hid hR
    have HB2 := Lib.hid hB2
    clear hR hB2 HN HB HH HG hl hw
    go_wp2
    go_ret
    exact ⟨_, _, rfl, HR.out, HB2.out⟩
end Go.Proofs.YtoiaecfiinkmjaaDoor
