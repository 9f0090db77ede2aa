/- gessolaw11.IdentOrders returns true. -/
import Derived.Test.YtoiaecfiinkmjaaDoorWakes11
import Derived.Test.YtoiaecfiinkmjaaDoorTotLaw
import Derived.Test.YtoiaecfiinkmjaaDoorRRise
import Derived.Test.YtoiaecfiinkmjaaDoorSortOwn
import Derived.Test.YtoiaecfiinkmjaaDoorRef11S
import Derived.Test.YtoiaecfiinkmjaaDoorRowD
namespace Go.Proofs.YtoiaecfiinkmjaaDoor
open Go.RowKit Go.Shelf Go.Sort

theorem RowS.takeI {W : World} {a : Option Addr} {n : Nat} {L : List Idn} (h : RowS encId 3 W a n L) (m : Nat) (hm : m ≤ n) : RowS encId 3 W a m (L.take m) := by
  obtain ⟨rfl, h2, h3⟩ := h
  refine ⟨by rw [List.length_take]; omega, by rw [List.length_take]; omega, ?_⟩
  rcases h3 with rfl | ⟨b, off, ea, hb, hv⟩
  · exact .inl (by simp)
  · exact .inr ⟨b, off, ea, hb, fun j x hj i v hi => hv j x (by
      rw [List.getElem?_take] at hj
      split at hj
      · exact hj
      · cases hj) i v hi⟩
theorem RowS.at0 {W : World} {b off n j : Nat} {L : List Idn} {y : Idn} (h : RowS encId 3 W (some ⟨b, off, none⟩) n L) (hj : j < L.length) (hy : L[j]? = some y) : W.cell? ⟨b, off + j * 3, none⟩ = some (.int .u64 y.t) := by
  obtain ⟨b', off', e, _, hv⟩ := h.2.2.resolve_left (fun e => by rw [e] at hj; simp at hj)
  simp at e
  obtain ⟨rfl, rfl⟩ := e
  exact hv j y hy 0 _ rfl
theorem RowS.at1 {W : World} {b off n j : Nat} {L : List Idn} {y : Idn} (h : RowS encId 3 W (some ⟨b, off, none⟩) n L) (hj : j < L.length) (hy : L[j]? = some y) : W.cell? ⟨b, off + j * 3 + 1, none⟩ = some (.int .i64 y.s) := by
  obtain ⟨b', off', e, _, hv⟩ := h.2.2.resolve_left (fun e => by rw [e] at hj; simp at hj)
  simp at e
  obtain ⟨rfl, rfl⟩ := e
  exact hv j y hy 1 _ rfl
theorem RowS.at2 {W : World} {b off n j : Nat} {L : List Idn} {y : Idn} (h : RowS encId 3 W (some ⟨b, off, none⟩) n L) (hj : j < L.length) (hy : L[j]? = some y) : W.cell? ⟨b, off + j * 3 + 2, none⟩ = some (.int .u64 y.q) := by
  obtain ⟨b', off', e, _, hv⟩ := h.2.2.resolve_left (fun e => by rw [e] at hj; simp at hj)
  simp at e
  obtain ⟨rfl, rfl⟩ := e
  exact hv j y hy 2 _ rfl
theorem cmp_less (x y : Idn) : (cmpId x y = -1 ∧ lessId x y = true ∧ lessId y x = false) ∨ (cmpId x y = 0 ∧ lessId x y = false ∧ lessId y x = false) ∨ (cmpId x y = 1 ∧ lessId x y = false ∧ lessId y x = true) := by
  have h1 := cmp_lt x y
  have h2 := cmp_lt y x
  rcases cmp_cases x y with ⟨e1, e2, _⟩ | ⟨e1, e2, _⟩ | ⟨e1, e2, _⟩ <;> rw [e1] at h1 <;> rw [e2] at h2 <;> rw [← h1, ← h2] <;> simp [e1]

/-- the times of a row that may be written. -/
def TimesW (g m : Nat) (W : World) : Prop := ∀ j, j < m → (∃ v, W.cell? ⟨g, j * 3, none⟩ = some (.int .u64 v)) ∧ W.frozen? ⟨g, j * 3, none⟩ = false
theorem TimesW.below {g m : Nat} {W W' : World} (h : TimesW g m W) (hg : g < W.heap.size) (hb : Below W.heap.size W W') : TimesW g m W' := fun j hj => by
  obtain ⟨⟨v, hv⟩, hf⟩ := h j hj
  exact ⟨⟨v, (hb.cell (p := ⟨g, j * 3, none⟩) hg).trans hv⟩, (World.frozen?_of_block (a := ⟨g, j * 3, none⟩) (hb.block g hg)).trans hf⟩
theorem TimesW.set {g m k : Nat} {W : World} {x : Int} (h : TimesW g m W) (hk : k < m) : TimesW g m (W.setCell ⟨g, k * 3, none⟩ (.int .u64 x)) := fun j hj => by
  obtain ⟨⟨v, hv⟩, hf⟩ := h j hj
  refine ⟨?_, by rw [World.frozen?_setCell]; exact hf⟩
  by_cases e : j = k
  · subst e; exact ⟨x, World.cell?_setCell_same' W _ _ (by rw [hv]; rfl)⟩
  · exact ⟨v, (World.cell?_setCell_other W _ _ _ (fun he => e (by simpa using he.symm))).trans hv⟩
theorem TimesW.of {g : Nat} {W : World} {L : List Idn} (h : HoldsK encId 3 W g 0 L.toArray) : TimesW g L.length W := fun j hj => by
  obtain ⟨h1, h2⟩ := h.cell (i := j) (c := 0) (by simpa using hj) (by omega)
  simp only [Nat.zero_add, Nat.add_zero] at h1 h2
  exact ⟨⟨_, h1⟩, h2⟩
theorem allEq_self : ∀ l : List Idn, Lib.allEq eqId l l = true
  | [] => rfl
  | x :: l => by simp [Lib.allEq, allEq_self l, (eqId_iff x x).2 rfl]
/-- what is known through the loops. -/
structure FrO (w : World) (la : Option Addr) (m : Nat) (l : List Idn) (a : Option Addr) (n : Nat) (L : List Idn) (X : World) : Prop where
  «1» : RowS encId 3 X la m l
  row : RowS encId 3 X a n L
  hb : Below w.heap.size w X
theorem FrO.below {w W W' : World} {la a : Option Addr} {m n : Nat} {l L : List Idn} (h : FrO w la m l a n L W) (hb : Below W.heap.size W W') : FrO w la m l a n L W' :=
  ⟨h.1.below hb, h.row.below hb, h.hb.trans (hb.mono h.hb.size)⟩

set_option maxRecDepth 100000 in
set_option maxHeartbeats 4000000 in
theorem orders_run (a : Option Addr) (n c : Nat) (L l : List Idn) (m : Nat) (w : World) (hS : RowS encId 3 w a n L) (hnc : n ≤ c) (hm : m = min n 14) (hl : l = L.take m) (htab : Tab w) :
    Calls Tryd.prog 7 #[.slice a n c] w (Ret (.bool true) w) := by
  have HS := Lib.hid hS
  have hmm : (min (n : Int) 14).toNat = m := by omega
  have hn0 : (0 : Int) ≤ min (n : Int) 14 := by omega
  have hnc' : min (n : Int) 14 ≤ (c : Int) := by omega
  have HMN := Lib.hid (And.intro hm hl)
  have HT := Lib.hid htab
  clear hS hm hl htab
  go_enter Tryd.func7, Tryd.ntmps7
  go_wp2_with fail
  refine (wakes_any _ HT.out).mono ?_
  rintro e X ⟨rfl, hb⟩
  have HB := Lib.hid hb
  replace HS := Lib.hid (HS.out.below hb)
  clear hb HT
  go_wp2_with fail
  refine (CloneId a m c l X (by rw [HMN.out.2]; exact HS.out.takeI m (by have := HMN.out.1; omega)) (by rw [HMN.out.2, List.length_take]; have := HMN.out.1; omega)).mono ?_
  rintro e X1 ⟨la, lc, rfl, hr, hb⟩
  have HF : Hid (FrO w la m l a n L X1) := ⟨hr, HS.out.below hb, HB.out.trans (hb.mono HB.out.size)⟩
  clear hb hr HB HS
  go_wp2_with fail
  go_loopw [22] (fun i wr => ∃ k : Nat, k ≤ l.length ∧ i = .int .i64 k ∧ Below X1.heap.size X1 wr) (fun i _ => l.length - (intOf i).toNat)
  case atStart => exact ⟨0, Nat.zero_le _, rfl, Below.refl _ _⟩
  case round =>
    obtain ⟨k, hk, rfl, hBr⟩ := hrel
    have HBr := Lib.hid hBr
    have HML : Hid (m = l.length) := HF.out.1.1
    clear hBr
    by_cases hlt : k < l.length
    · obtain ⟨b, off, rfl, hbl, hv⟩ := HF.out.1.2.2.resolve_left (fun e => by rw [e] at hlt; simp at hlt)
      obtain ⟨x, hx⟩ : ∃ x, l[k]? = some x := ⟨_, List.getElem?_eq_getElem hlt⟩
      have x0 : wr.cell? ⟨b, off + k * 3, none⟩ = some (.int .u64 x.t) := (HBr.out.cell (p := ⟨b, off + k * 3, none⟩) hbl).trans (hv k x hx 0 _ rfl)
      have x1 : wr.cell? ⟨b, off + k * 3 + 1, none⟩ = some (.int .i64 x.s) := (HBr.out.cell (p := ⟨b, off + k * 3 + 1, none⟩) hbl).trans (hv k x hx 1 _ rfl)
      have x2 : wr.cell? ⟨b, off + k * 3 + 2, none⟩ = some (.int .u64 x.q) := (HBr.out.cell (p := ⟨b, off + k * 3 + 2, none⟩) hbl).trans (hv k x hx 2 _ rfl)
      have hkm : (k : Int) < (m : Int) := by have := HML.out; omega
      clear hv hx
      replace HF := Lib.hid ((HF.out.below HBr.out).below ((Below.refl _ _).alloc (Nat.le_refl _) (.cells #[.int .u64 x.t, .int .i64 x.s, .int .u64 x.q] 27)))
      have H5 := Lib.hid (Blk.new wr 27 #[.int .u64 x.t, .int .i64 x.s, .int .u64 x.q])
      replace HBr := Lib.hid (HBr.out.alloc HBr.out.size (.cells #[.int .u64 x.t, .int .i64 x.s, .int .u64 x.q] 27))
      go_upto_region 7 with fail
      clear x0 x1 x2
      generalize wr.alloc (.cells #[.int .u64 x.t, .int .i64 x.s, .int .u64 x.q] 27) = V0 at H5 HF HBr ⊢
      generalize wr.heap.size = p5 at H5 ⊢
      cases hok : okId x.t x.s x.q with
      | true =>
        have HCk := Lib.hid (fun W => Check_id_ok x.t x.s x.q hok W)
        have HRt : Hid (∀ W, Calls Tryd.prog 27 #[x.val] W (Ret (.bool true) W)) := fun W => by have := RId_any x.t x.s x.q W; rwa [hok] at this
        clear hok
        have c0 := H5.out.cell 0
        have c1 := H5.out.cell 1
        have c2 := H5.out.cell 2
        simp at c0 c1 c2
        go_wp2_with fail
        refine (HCk.out _).mono ?_
        rintro e V1 ⟨rfl, hb⟩
        replace HF := Lib.hid (HF.out.below hb)
        replace H5 := Lib.hid (H5.out.below hb H5.out.lt)
        replace HBr := Lib.hid (HBr.out.trans (hb.mono HBr.out.size))
        clear hb c0 c1 c2 HCk
        have c0 := H5.out.cell 0
        have c1 := H5.out.cell 1
        have c2 := H5.out.cell 2
        simp at c0 c1 c2
        go_wp2_with fail
        refine (HRt.out _).mono ?_
        rintro e V ⟨rfl, hb⟩
        replace HF := Lib.hid (HF.out.below hb)
        replace H5 := Lib.hid (H5.out.below hb H5.out.lt)
        replace HBr := Lib.hid (HBr.out.trans (hb.mono HBr.out.size))
        clear hb c0 c1 c2 HRt
        go_wp2_with fail
        go_loopw [43] (fun i wr => ∃ j : Nat, j ≤ l.length ∧ i = .int .i64 j ∧ Below V.heap.size V wr) (fun i _ => l.length - (intOf i).toNat)
        case atStart => exact ⟨0, Nat.zero_le _, rfl, Below.refl _ _⟩
        case round =>
          obtain ⟨j, hj, rfl, hBj⟩ := hrel
          have HBj := Lib.hid hBj
          clear hBj
          by_cases hjl : j < l.length
          · have HFj := Lib.hid (HF.out.below HBj.out)
            obtain ⟨y, hy⟩ : ∃ y, l[j]? = some y := ⟨_, List.getElem?_eq_getElem hjl⟩
            have y0 := HFj.out.1.at0 hjl hy
            have y1 := HFj.out.1.at1 hjl hy
            have y2 := HFj.out.1.at2 hjl hy
            have hjm : (j : Int) < (m : Int) := by have := HML.out; omega
            have H8 := Lib.hid (Blk.new wr 27 #[.int .u64 y.t, .int .i64 y.s, .int .u64 y.q])
            replace H5 := Lib.hid ((H5.out.below HBj.out H5.out.lt).alloc (.cells #[.int .u64 y.t, .int .i64 y.s, .int .u64 y.q] 27))
            replace HBj := Lib.hid (HBj.out.alloc HBj.out.size (.cells #[.int .u64 y.t, .int .i64 y.s, .int .u64 y.q] 27))
            clear hy HFj
            go_upto_region 14 with fail
            clear y0 y1 y2
            generalize wr.alloc (.cells #[.int .u64 y.t, .int .i64 y.s, .int .u64 y.q] 27) = Y at H5 H8 HBj ⊢
            generalize wr.heap.size = p8 at H8 ⊢
            have hC := fun W => Compare_any x y W
            have hL := fun W => Less_any x y W
            have hR1 := fun W => RLess_any x y W
            have hR2 := fun W => RLess_any y x W
            rcases cmp_less x y with ⟨e1, e2, e3⟩ | ⟨e1, e2, e3⟩ | ⟨e1, e2, e3⟩
            · rw [e1] at hC
              rw [e2] at hL hR1
              have HC := Lib.hid hC
              have HL := Lib.hid hL
              have HR1 := Lib.hid hR1
              clear hC hL hR1 hR2 e1 e2 e3
              have c0 := H5.out.cell 0
              have c1 := H5.out.cell 1
              have c2 := H5.out.cell 2
              have d0 := H8.out.cell 0
              have d1 := H8.out.cell 1
              have d2 := H8.out.cell 2
              simp at c0 c1 c2 d0 d1 d2
              go_wp2_with fail
              refine (HR1.out _).mono ?_
              rintro e Y1 ⟨rfl, hb⟩
              replace H5 := Lib.hid (H5.out.below hb H5.out.lt)
              replace H8 := Lib.hid (H8.out.below hb H8.out.lt)
              replace HBj := Lib.hid (HBj.out.trans (hb.mono HBj.out.size))
              clear hb c0 c1 c2 d0 d1 d2
              have c0 := H5.out.cell 0
              have c1 := H5.out.cell 1
              have c2 := H5.out.cell 2
              have d0 := H8.out.cell 0
              have d1 := H8.out.cell 1
              have d2 := H8.out.cell 2
              simp at c0 c1 c2 d0 d1 d2
              go_wp2_with fail
              refine (HC.out _).mono ?_
              rintro e Y1 ⟨rfl, hb⟩
              replace H5 := Lib.hid (H5.out.below hb H5.out.lt)
              replace H8 := Lib.hid (H8.out.below hb H8.out.lt)
              replace HBj := Lib.hid (HBj.out.trans (hb.mono HBj.out.size))
              clear hb c0 c1 c2 d0 d1 d2
              have c0 := H5.out.cell 0
              have c1 := H5.out.cell 1
              have c2 := H5.out.cell 2
              have d0 := H8.out.cell 0
              have d1 := H8.out.cell 1
              have d2 := H8.out.cell 2
              simp at c0 c1 c2 d0 d1 d2
              go_wp2_with fail
              refine (HL.out _).mono ?_
              rintro e Y1 ⟨rfl, hb⟩
              replace H5 := Lib.hid (H5.out.below hb H5.out.lt)
              replace H8 := Lib.hid (H8.out.below hb H8.out.lt)
              replace HBj := Lib.hid (HBj.out.trans (hb.mono HBj.out.size))
              clear hb c0 c1 c2 d0 d1 d2
              go_wp2_with fail
              go_roundw
              case rel => exact ⟨j + 1, by omega, by go_num, HBj.out⟩
              case measure => simp [intOf]; omega
            · rw [e1] at hC
              rw [e2] at hL hR1
              rw [e3] at hR2
              have HC := Lib.hid hC
              have HL := Lib.hid hL
              have HR1 := Lib.hid hR1
              have HR2 := Lib.hid hR2
              clear hC hL hR1 hR2 e1 e2 e3
              have c0 := H5.out.cell 0
              have c1 := H5.out.cell 1
              have c2 := H5.out.cell 2
              have d0 := H8.out.cell 0
              have d1 := H8.out.cell 1
              have d2 := H8.out.cell 2
              simp at c0 c1 c2 d0 d1 d2
              go_wp2_with fail
              refine (HR1.out _).mono ?_
              rintro e Y1 ⟨rfl, hb⟩
              replace H5 := Lib.hid (H5.out.below hb H5.out.lt)
              replace H8 := Lib.hid (H8.out.below hb H8.out.lt)
              replace HBj := Lib.hid (HBj.out.trans (hb.mono HBj.out.size))
              clear hb c0 c1 c2 d0 d1 d2
              have c0 := H5.out.cell 0
              have c1 := H5.out.cell 1
              have c2 := H5.out.cell 2
              have d0 := H8.out.cell 0
              have d1 := H8.out.cell 1
              have d2 := H8.out.cell 2
              simp at c0 c1 c2 d0 d1 d2
              go_wp2_with fail
              refine (HR2.out _).mono ?_
              rintro e Y1 ⟨rfl, hb⟩
              replace H5 := Lib.hid (H5.out.below hb H5.out.lt)
              replace H8 := Lib.hid (H8.out.below hb H8.out.lt)
              replace HBj := Lib.hid (HBj.out.trans (hb.mono HBj.out.size))
              clear hb c0 c1 c2 d0 d1 d2
              have c0 := H5.out.cell 0
              have c1 := H5.out.cell 1
              have c2 := H5.out.cell 2
              have d0 := H8.out.cell 0
              have d1 := H8.out.cell 1
              have d2 := H8.out.cell 2
              simp at c0 c1 c2 d0 d1 d2
              go_wp2_with fail
              refine (HC.out _).mono ?_
              rintro e Y1 ⟨rfl, hb⟩
              replace H5 := Lib.hid (H5.out.below hb H5.out.lt)
              replace H8 := Lib.hid (H8.out.below hb H8.out.lt)
              replace HBj := Lib.hid (HBj.out.trans (hb.mono HBj.out.size))
              clear hb c0 c1 c2 d0 d1 d2
              have c0 := H5.out.cell 0
              have c1 := H5.out.cell 1
              have c2 := H5.out.cell 2
              have d0 := H8.out.cell 0
              have d1 := H8.out.cell 1
              have d2 := H8.out.cell 2
              simp at c0 c1 c2 d0 d1 d2
              go_wp2_with fail
              refine (HL.out _).mono ?_
              rintro e Y1 ⟨rfl, hb⟩
              replace H5 := Lib.hid (H5.out.below hb H5.out.lt)
              replace H8 := Lib.hid (H8.out.below hb H8.out.lt)
              replace HBj := Lib.hid (HBj.out.trans (hb.mono HBj.out.size))
              clear hb c0 c1 c2 d0 d1 d2
              go_wp2_with fail
              go_roundw
              case rel => exact ⟨j + 1, by omega, by go_num, HBj.out⟩
              case measure => simp [intOf]; omega
            · rw [e1] at hC
              rw [e2] at hL hR1
              rw [e3] at hR2
              have HC := Lib.hid hC
              have HL := Lib.hid hL
              have HR1 := Lib.hid hR1
              have HR2 := Lib.hid hR2
              clear hC hL hR1 hR2 e1 e2 e3
              have c0 := H5.out.cell 0
              have c1 := H5.out.cell 1
              have c2 := H5.out.cell 2
              have d0 := H8.out.cell 0
              have d1 := H8.out.cell 1
              have d2 := H8.out.cell 2
              simp at c0 c1 c2 d0 d1 d2
              go_wp2_with fail
              refine (HR1.out _).mono ?_
              rintro e Y1 ⟨rfl, hb⟩
              replace H5 := Lib.hid (H5.out.below hb H5.out.lt)
              replace H8 := Lib.hid (H8.out.below hb H8.out.lt)
              replace HBj := Lib.hid (HBj.out.trans (hb.mono HBj.out.size))
              clear hb c0 c1 c2 d0 d1 d2
              have c0 := H5.out.cell 0
              have c1 := H5.out.cell 1
              have c2 := H5.out.cell 2
              have d0 := H8.out.cell 0
              have d1 := H8.out.cell 1
              have d2 := H8.out.cell 2
              simp at c0 c1 c2 d0 d1 d2
              go_wp2_with fail
              refine (HR2.out _).mono ?_
              rintro e Y1 ⟨rfl, hb⟩
              replace H5 := Lib.hid (H5.out.below hb H5.out.lt)
              replace H8 := Lib.hid (H8.out.below hb H8.out.lt)
              replace HBj := Lib.hid (HBj.out.trans (hb.mono HBj.out.size))
              clear hb c0 c1 c2 d0 d1 d2
              have c0 := H5.out.cell 0
              have c1 := H5.out.cell 1
              have c2 := H5.out.cell 2
              have d0 := H8.out.cell 0
              have d1 := H8.out.cell 1
              have d2 := H8.out.cell 2
              simp at c0 c1 c2 d0 d1 d2
              go_wp2_with fail
              refine (HC.out _).mono ?_
              rintro e Y1 ⟨rfl, hb⟩
              replace H5 := Lib.hid (H5.out.below hb H5.out.lt)
              replace H8 := Lib.hid (H8.out.below hb H8.out.lt)
              replace HBj := Lib.hid (HBj.out.trans (hb.mono HBj.out.size))
              clear hb c0 c1 c2 d0 d1 d2
              have c0 := H5.out.cell 0
              have c1 := H5.out.cell 1
              have c2 := H5.out.cell 2
              have d0 := H8.out.cell 0
              have d1 := H8.out.cell 1
              have d2 := H8.out.cell 2
              simp at c0 c1 c2 d0 d1 d2
              go_wp2_with fail
              refine (HL.out _).mono ?_
              rintro e Y1 ⟨rfl, hb⟩
              replace H5 := Lib.hid (H5.out.below hb H5.out.lt)
              replace H8 := Lib.hid (H8.out.below hb H8.out.lt)
              replace HBj := Lib.hid (HBj.out.trans (hb.mono HBj.out.size))
              clear hb c0 c1 c2 d0 d1 d2
              go_wp2_with fail
              go_roundw
              case rel => exact ⟨j + 1, by omega, by go_num, HBj.out⟩
              case measure => simp [intOf]; omega
          · have hjm : ¬ (j : Int) < (m : Int) := by have := HML.out; omega
            have HBV : Hid (Below X1.heap.size X1 wr) := HBr.out.trans (HBj.out.mono HBr.out.size)
            clear H5 HF HBj HBr
            go_wp2_with fail
            go_roundw
            case rel => exact ⟨k + 1, by omega, by go_num, HBV.out⟩
            case measure => simp [intOf]; omega
      | false =>
        have HCk := Lib.hid (fun W => Check_id_bad x.t x.s x.q hok W)
        have HRt : Hid (∀ W, Calls Tryd.prog 27 #[x.val] W (Ret (.bool false) W)) := fun W => by have := RId_any x.t x.s x.q W; rwa [hok] at this
        clear hok
        have c0 := H5.out.cell 0
        have c1 := H5.out.cell 1
        have c2 := H5.out.cell 2
        simp at c0 c1 c2
        go_wp2_with fail
        refine (HCk.out _).mono ?_
        rintro e V1 ⟨rfl, hb⟩
        replace HF := Lib.hid (HF.out.below hb)
        replace H5 := Lib.hid (H5.out.below hb H5.out.lt)
        replace HBr := Lib.hid (HBr.out.trans (hb.mono HBr.out.size))
        clear hb c0 c1 c2 HCk
        have c0 := H5.out.cell 0
        have c1 := H5.out.cell 1
        have c2 := H5.out.cell 2
        simp at c0 c1 c2
        go_wp2_with fail
        refine (HRt.out _).mono ?_
        rintro e V ⟨rfl, hb⟩
        replace HF := Lib.hid (HF.out.below hb)
        replace H5 := Lib.hid (H5.out.below hb H5.out.lt)
        replace HBr := Lib.hid (HBr.out.trans (hb.mono HBr.out.size))
        clear hb c0 c1 c2 HRt
        go_wp2_with fail
        go_loopw [43] (fun i wr => ∃ j : Nat, j ≤ l.length ∧ i = .int .i64 j ∧ Below V.heap.size V wr) (fun i _ => l.length - (intOf i).toNat)
        case atStart => exact ⟨0, Nat.zero_le _, rfl, Below.refl _ _⟩
        case round =>
          obtain ⟨j, hj, rfl, hBj⟩ := hrel
          have HBj := Lib.hid hBj
          clear hBj
          by_cases hjl : j < l.length
          · have HFj := Lib.hid (HF.out.below HBj.out)
            obtain ⟨y, hy⟩ : ∃ y, l[j]? = some y := ⟨_, List.getElem?_eq_getElem hjl⟩
            have y0 := HFj.out.1.at0 hjl hy
            have y1 := HFj.out.1.at1 hjl hy
            have y2 := HFj.out.1.at2 hjl hy
            have hjm : (j : Int) < (m : Int) := by have := HML.out; omega
            have H8 := Lib.hid (Blk.new wr 27 #[.int .u64 y.t, .int .i64 y.s, .int .u64 y.q])
            replace H5 := Lib.hid ((H5.out.below HBj.out H5.out.lt).alloc (.cells #[.int .u64 y.t, .int .i64 y.s, .int .u64 y.q] 27))
            replace HBj := Lib.hid (HBj.out.alloc HBj.out.size (.cells #[.int .u64 y.t, .int .i64 y.s, .int .u64 y.q] 27))
            clear hy HFj
            go_upto_region 14 with fail
            clear y0 y1 y2
            generalize wr.alloc (.cells #[.int .u64 y.t, .int .i64 y.s, .int .u64 y.q] 27) = Y at H5 H8 HBj ⊢
            generalize wr.heap.size = p8 at H8 ⊢
            have hC := fun W => Compare_any x y W
            have hL := fun W => Less_any x y W
            have hR1 := fun W => RLess_any x y W
            have hR2 := fun W => RLess_any y x W
            rcases cmp_less x y with ⟨e1, e2, e3⟩ | ⟨e1, e2, e3⟩ | ⟨e1, e2, e3⟩
            · rw [e1] at hC
              rw [e2] at hL hR1
              have HC := Lib.hid hC
              have HL := Lib.hid hL
              have HR1 := Lib.hid hR1
              clear hC hL hR1 hR2 e1 e2 e3
              have c0 := H5.out.cell 0
              have c1 := H5.out.cell 1
              have c2 := H5.out.cell 2
              have d0 := H8.out.cell 0
              have d1 := H8.out.cell 1
              have d2 := H8.out.cell 2
              simp at c0 c1 c2 d0 d1 d2
              go_wp2_with fail
              refine (HR1.out _).mono ?_
              rintro e Y1 ⟨rfl, hb⟩
              replace H5 := Lib.hid (H5.out.below hb H5.out.lt)
              replace H8 := Lib.hid (H8.out.below hb H8.out.lt)
              replace HBj := Lib.hid (HBj.out.trans (hb.mono HBj.out.size))
              clear hb c0 c1 c2 d0 d1 d2
              have c0 := H5.out.cell 0
              have c1 := H5.out.cell 1
              have c2 := H5.out.cell 2
              have d0 := H8.out.cell 0
              have d1 := H8.out.cell 1
              have d2 := H8.out.cell 2
              simp at c0 c1 c2 d0 d1 d2
              go_wp2_with fail
              refine (HC.out _).mono ?_
              rintro e Y1 ⟨rfl, hb⟩
              replace H5 := Lib.hid (H5.out.below hb H5.out.lt)
              replace H8 := Lib.hid (H8.out.below hb H8.out.lt)
              replace HBj := Lib.hid (HBj.out.trans (hb.mono HBj.out.size))
              clear hb c0 c1 c2 d0 d1 d2
              have c0 := H5.out.cell 0
              have c1 := H5.out.cell 1
              have c2 := H5.out.cell 2
              have d0 := H8.out.cell 0
              have d1 := H8.out.cell 1
              have d2 := H8.out.cell 2
              simp at c0 c1 c2 d0 d1 d2
              go_wp2_with fail
              refine (HL.out _).mono ?_
              rintro e Y1 ⟨rfl, hb⟩
              replace H5 := Lib.hid (H5.out.below hb H5.out.lt)
              replace H8 := Lib.hid (H8.out.below hb H8.out.lt)
              replace HBj := Lib.hid (HBj.out.trans (hb.mono HBj.out.size))
              clear hb c0 c1 c2 d0 d1 d2
              go_wp2_with fail
              go_roundw
              case rel => exact ⟨j + 1, by omega, by go_num, HBj.out⟩
              case measure => simp [intOf]; omega
            · rw [e1] at hC
              rw [e2] at hL hR1
              rw [e3] at hR2
              have HC := Lib.hid hC
              have HL := Lib.hid hL
              have HR1 := Lib.hid hR1
              have HR2 := Lib.hid hR2
              clear hC hL hR1 hR2 e1 e2 e3
              have c0 := H5.out.cell 0
              have c1 := H5.out.cell 1
              have c2 := H5.out.cell 2
              have d0 := H8.out.cell 0
              have d1 := H8.out.cell 1
              have d2 := H8.out.cell 2
              simp at c0 c1 c2 d0 d1 d2
              go_wp2_with fail
              refine (HR1.out _).mono ?_
              rintro e Y1 ⟨rfl, hb⟩
              replace H5 := Lib.hid (H5.out.below hb H5.out.lt)
              replace H8 := Lib.hid (H8.out.below hb H8.out.lt)
              replace HBj := Lib.hid (HBj.out.trans (hb.mono HBj.out.size))
              clear hb c0 c1 c2 d0 d1 d2
              have c0 := H5.out.cell 0
              have c1 := H5.out.cell 1
              have c2 := H5.out.cell 2
              have d0 := H8.out.cell 0
              have d1 := H8.out.cell 1
              have d2 := H8.out.cell 2
              simp at c0 c1 c2 d0 d1 d2
              go_wp2_with fail
              refine (HR2.out _).mono ?_
              rintro e Y1 ⟨rfl, hb⟩
              replace H5 := Lib.hid (H5.out.below hb H5.out.lt)
              replace H8 := Lib.hid (H8.out.below hb H8.out.lt)
              replace HBj := Lib.hid (HBj.out.trans (hb.mono HBj.out.size))
              clear hb c0 c1 c2 d0 d1 d2
              have c0 := H5.out.cell 0
              have c1 := H5.out.cell 1
              have c2 := H5.out.cell 2
              have d0 := H8.out.cell 0
              have d1 := H8.out.cell 1
              have d2 := H8.out.cell 2
              simp at c0 c1 c2 d0 d1 d2
              go_wp2_with fail
              refine (HC.out _).mono ?_
              rintro e Y1 ⟨rfl, hb⟩
              replace H5 := Lib.hid (H5.out.below hb H5.out.lt)
              replace H8 := Lib.hid (H8.out.below hb H8.out.lt)
              replace HBj := Lib.hid (HBj.out.trans (hb.mono HBj.out.size))
              clear hb c0 c1 c2 d0 d1 d2
              have c0 := H5.out.cell 0
              have c1 := H5.out.cell 1
              have c2 := H5.out.cell 2
              have d0 := H8.out.cell 0
              have d1 := H8.out.cell 1
              have d2 := H8.out.cell 2
              simp at c0 c1 c2 d0 d1 d2
              go_wp2_with fail
              refine (HL.out _).mono ?_
              rintro e Y1 ⟨rfl, hb⟩
              replace H5 := Lib.hid (H5.out.below hb H5.out.lt)
              replace H8 := Lib.hid (H8.out.below hb H8.out.lt)
              replace HBj := Lib.hid (HBj.out.trans (hb.mono HBj.out.size))
              clear hb c0 c1 c2 d0 d1 d2
              go_wp2_with fail
              go_roundw
              case rel => exact ⟨j + 1, by omega, by go_num, HBj.out⟩
              case measure => simp [intOf]; omega
            · rw [e1] at hC
              rw [e2] at hL hR1
              rw [e3] at hR2
              have HC := Lib.hid hC
              have HL := Lib.hid hL
              have HR1 := Lib.hid hR1
              have HR2 := Lib.hid hR2
              clear hC hL hR1 hR2 e1 e2 e3
              have c0 := H5.out.cell 0
              have c1 := H5.out.cell 1
              have c2 := H5.out.cell 2
              have d0 := H8.out.cell 0
              have d1 := H8.out.cell 1
              have d2 := H8.out.cell 2
              simp at c0 c1 c2 d0 d1 d2
              go_wp2_with fail
              refine (HR1.out _).mono ?_
              rintro e Y1 ⟨rfl, hb⟩
              replace H5 := Lib.hid (H5.out.below hb H5.out.lt)
              replace H8 := Lib.hid (H8.out.below hb H8.out.lt)
              replace HBj := Lib.hid (HBj.out.trans (hb.mono HBj.out.size))
              clear hb c0 c1 c2 d0 d1 d2
              have c0 := H5.out.cell 0
              have c1 := H5.out.cell 1
              have c2 := H5.out.cell 2
              have d0 := H8.out.cell 0
              have d1 := H8.out.cell 1
              have d2 := H8.out.cell 2
              simp at c0 c1 c2 d0 d1 d2
              go_wp2_with fail
              refine (HR2.out _).mono ?_
              rintro e Y1 ⟨rfl, hb⟩
              replace H5 := Lib.hid (H5.out.below hb H5.out.lt)
              replace H8 := Lib.hid (H8.out.below hb H8.out.lt)
              replace HBj := Lib.hid (HBj.out.trans (hb.mono HBj.out.size))
              clear hb c0 c1 c2 d0 d1 d2
              have c0 := H5.out.cell 0
              have c1 := H5.out.cell 1
              have c2 := H5.out.cell 2
              have d0 := H8.out.cell 0
              have d1 := H8.out.cell 1
              have d2 := H8.out.cell 2
              simp at c0 c1 c2 d0 d1 d2
              go_wp2_with fail
              refine (HC.out _).mono ?_
              rintro e Y1 ⟨rfl, hb⟩
              replace H5 := Lib.hid (H5.out.below hb H5.out.lt)
              replace H8 := Lib.hid (H8.out.below hb H8.out.lt)
              replace HBj := Lib.hid (HBj.out.trans (hb.mono HBj.out.size))
              clear hb c0 c1 c2 d0 d1 d2
              have c0 := H5.out.cell 0
              have c1 := H5.out.cell 1
              have c2 := H5.out.cell 2
              have d0 := H8.out.cell 0
              have d1 := H8.out.cell 1
              have d2 := H8.out.cell 2
              simp at c0 c1 c2 d0 d1 d2
              go_wp2_with fail
              refine (HL.out _).mono ?_
              rintro e Y1 ⟨rfl, hb⟩
              replace H5 := Lib.hid (H5.out.below hb H5.out.lt)
              replace H8 := Lib.hid (H8.out.below hb H8.out.lt)
              replace HBj := Lib.hid (HBj.out.trans (hb.mono HBj.out.size))
              clear hb c0 c1 c2 d0 d1 d2
              go_wp2_with fail
              go_roundw
              case rel => exact ⟨j + 1, by omega, by go_num, HBj.out⟩
              case measure => simp [intOf]; omega
          · have hjm : ¬ (j : Int) < (m : Int) := by have := HML.out; omega
            have HBV : Hid (Below X1.heap.size X1 wr) := HBr.out.trans (HBj.out.mono HBr.out.size)
            clear H5 HF HBj HBr
            go_wp2_with fail
            go_roundw
            case rel => exact ⟨k + 1, by omega, by go_num, HBV.out⟩
            case measure => simp [intOf]; omega
    · have hkm : ¬ (k : Int) < (m : Int) := by have := HML.out; omega
      replace HF := Lib.hid (HF.out.below HBr.out)
      clear HBr
      go_wp2_with fail
      have hm1000 : l.length ≤ 1000 := by have := HMN.out.1; have := HML.out; omega
      have hsl : (sortIds l).length = m := by simp [sortIds]; exact HML.out.symm
      refine (Sorted_own la m lc l _ HF.out.1 hm1000).mono ?_
      rintro e Y1 ⟨sa, sc, rfl, hs, hb, ho⟩
      have HF1 := Lib.hid (HF.out.below hb)
      have HG0 := HF
      generalize hW0 : wr = W0 at hb ho HG0
      have HS1 := Lib.hid hs
      have HSO : Hid (l = [] ∨ ∃ g, sa = some ⟨g, 0, none⟩ ∧ W0.heap.size ≤ g ∧ g < Y1.heap.size ∧ TimesW g m Y1) := by
        rcases ho with h | ⟨g, e, hg, hh⟩
        · exact .inl h
        · by_cases hl0 : l = []
          · exact .inl hl0
          · refine .inr ⟨g, e, hg, ?_, by have := TimesW.of hh; rwa [hsl] at this⟩
            obtain ⟨b', off', e', hlt', _⟩ := hs.2.2.resolve_left (fun h => hl0 (by rw [h] at hsl; exact List.length_eq_zero_iff.1 (by have := HML.out; simp at hsl; omega)))
            rw [e] at e'
            simp at e'
            obtain ⟨rfl, rfl⟩ := e'
            exact hlt'
      have HB01 := Lib.hid hb
      clear hs hb ho HF hW0
      have KRS : Hid (∀ W, RowS encId 3 W la m l → Calls Tryd.prog 32 #[.slice la m lc] W fun e W' => ∃ a' c', e = .returned (.slice a' m c') ∧ RowS encId 3 W' a' m (sortIds l) ∧ Below W.heap.size W W') := fun W h => (RSorted_any la m lc l W h hm1000).mono fun e W' ⟨v, he, ho, hb⟩ => by
        rw [rsort_eq] at ho
        rw [← hsl] at ho
        obtain ⟨a', c', rfl, hr⟩ := rowS_of_own (enc := encId) (k := 3) (fun _ => rfl) ho
        rw [hsl] at hr he
        exact ⟨a', c', he, hr, hb⟩
      have HSL := Lib.hid hsl
      clear hsl hm1000
      generalize sortIds l = sl at HS1 KRS HSL
      go_wp2_with fail
      refine (KRS.out _ HF1.out.1).mono ?_
      rintro e Y2 ⟨ra, rc, rfl, hr, hb⟩
      replace HF1 := Lib.hid (HF1.out.below hb)
      have HS2 := Lib.hid (HS1.out.below hb)
      have HBA := Lib.hid hb
      clear hb KRS
      go_wp2_with fail
      refine (EqualId sa ra m sc m rc sl sl _ HS2.out hr).mono ?_
      rintro e Y3 ⟨he, q, hw⟩
      rw [allEq_self] at he
      subst he
      have hb : Below Y2.heap.size Y2 Y3 := by rw [hw]; exact below_drewW _ _
      replace HF1 := Lib.hid (HF1.out.below hb)
      replace HS2 := Lib.hid (HS2.out.below hb)
      replace HBA := Lib.hid (HBA.out.trans (hb.mono HBA.out.size))
      clear hb hw hr
      have KA : Hid (∀ W, RowS encId 3 W la m l → Calls Tryd.prog 33 #[.slice la m lc] W (Ret (.bool (riseB l)) W)) := fun W h => Rising_any la m lc l W h
      have KB : Hid (∀ W, RowS encId 3 W la m l → Calls Tryd.prog 34 #[.slice la m lc] W (Ret (.bool (riseB l)) W)) := fun W h => RRising_any la m lc l W h
      have KC : Hid (∀ W, RowS encId 3 W sa m sl → Calls Tryd.prog 33 #[.slice sa m sc] W (Ret (.bool (riseB sl)) W)) := fun W h => Rising_any sa m sc sl W h
      have KD : Hid (∀ W, RowS encId 3 W sa m sl → Calls Tryd.prog 34 #[.slice sa m sc] W (Ret (.bool (riseB sl)) W)) := fun W h => RRising_any sa m sc sl W h
      generalize riseB l = r1 at KA KB
      generalize riseB sl = r2 at KC KD
      go_wp2_with fail
      refine (KA.out _ HF1.out.1).mono ?_
      rintro e Y4 ⟨rfl, hb⟩
      replace HF1 := Lib.hid (HF1.out.below hb)
      replace HS2 := Lib.hid (HS2.out.below hb)
      replace HBA := Lib.hid (HBA.out.trans (hb.mono HBA.out.size))
      clear hb
      go_wp2_with fail
      refine (KB.out _ HF1.out.1).mono ?_
      rintro e Y5 ⟨rfl, hb⟩
      replace HF1 := Lib.hid (HF1.out.below hb)
      replace HS2 := Lib.hid (HS2.out.below hb)
      replace HBA := Lib.hid (HBA.out.trans (hb.mono HBA.out.size))
      clear hb
      have hx1 : (r1 != r1) = false := by simp
      have hx2 : (r2 != r2) = false := by simp
      go_wp2_with fail
      refine (KC.out _ HS2.out).mono ?_
      rintro e Y6 ⟨rfl, hb⟩
      replace HF1 := Lib.hid (HF1.out.below hb)
      replace HS2 := Lib.hid (HS2.out.below hb)
      replace HBA := Lib.hid (HBA.out.trans (hb.mono HBA.out.size))
      clear hb
      go_wp2_with fail
      refine (KD.out _ HS2.out).mono ?_
      rintro e Y7 ⟨rfl, hb⟩
      replace HF1 := Lib.hid (HF1.out.below hb)
      replace HS2 := Lib.hid (HS2.out.below hb)
      replace HBA := Lib.hid (HBA.out.trans (hb.mono HBA.out.size))
      clear hb
      clear KA KB KC KD
      have HSO7 : Hid (l = [] ∨ ∃ g, sa = some ⟨g, 0, none⟩ ∧ W0.heap.size ≤ g ∧ g < Y7.heap.size ∧ TimesW g m Y7) := HSO.out.imp id fun ⟨g, e, h1, h2, h3⟩ => ⟨g, e, h1, Nat.lt_of_lt_of_le h2 HBA.out.size, h3.below h2 HBA.out⟩
      have HB07 : Hid (Below W0.heap.size W0 Y7) := HB01.out.trans (HBA.out.mono HB01.out.size)
      clear HSO HB01 HBA HS1 HS2 HF1
      go_wp2_with fail
      go_loopw [93] (fun i wr => ∃ k : Nat, k ≤ m ∧ i = .int .i64 k ∧ Below W0.heap.size W0 wr ∧ (l = [] ∨ ∃ g, sa = some ⟨g, 0, none⟩ ∧ W0.heap.size ≤ g ∧ TimesW g m wr)) (fun i _ => m - (intOf i).toNat)
      case atStart => exact ⟨0, Nat.zero_le _, rfl, HB07.out, HSO7.out.imp id fun ⟨g, e, h1, _, h3⟩ => ⟨g, e, h1, h3⟩⟩
      case round =>
        obtain ⟨k, hk, rfl, hBk, hgk⟩ := hrel
        clear HSO7 HB07
        by_cases hkm2 : k < m
        · obtain ⟨g, rfl, hg, ht⟩ := hgk.resolve_left (fun h => by have := HML.out; rw [h] at this; simp at this; omega)
          have hr2 : (k : Int) < (m : Int) := by omega
          have hr3 : (0 : Int) ≤ (k : Int) := by omega
          obtain ⟨⟨v, c0⟩, f0⟩ := ht k hkm2
          have HTW := Lib.hid ht
          have HBK := Lib.hid hBk
          clear ht hBk hgk HG0
          go_wp2_with fail
          go_roundw
          case rel => exact ⟨k + 1, by omega, by go_num, HBK.out.setCell (p := ⟨g, k * 3, none⟩) hg _, .inr ⟨g, rfl, hg, HTW.out.set hkm2⟩⟩
          case measure => simp [intOf]; omega
        · obtain rfl : k = m := by omega
          have HFZ := Lib.hid (HG0.out.below hBk)
          have hm0 : (0 : Int) ≤ (k : Int) := by omega
          have hmc : (k : Int) ≤ (c : Int) := by have := HMN.out.1; omega
          clear hBk hgk HG0
          go_wp2_with fail
          have hxs : RowS encId 3 wr a k l := by
            have := HFZ.out.row.takeI k (by have := HMN.out.1; omega)
            rwa [← HMN.out.2] at this
          refine (EqualId la a k lc k c l l _ HFZ.out.1 hxs).mono ?_
          rintro e Y9 ⟨he, q, hw⟩
          rw [allEq_self] at he
          subst he
          have HBZ : Hid (Below w.heap.size w Y9) := by rw [hw]; exact HFZ.out.hb.trans (below_drewW _ _)
          clear hw hxs HFZ
          go_wp2_with fail
          go_ret
          exact ⟨rfl, HBZ.out⟩
theorem orders_any (a : Option Addr) (n c : Nat) (L : List Idn) (w : World) (hS : RowS encId 3 w a n L) (hnc : n ≤ c) (_ : ∀ x ∈ L, x.In) (htab : Tab w) :
    Calls Tryd.prog 7 #[.slice a n c] w (Ret (.bool true) w) := orders_run a n c L _ _ w hS hnc rfl rfl htab
end Go.Proofs.YtoiaecfiinkmjaaDoor
