/- gessolaw11.IdentClocks returns true. -/
import Derived.Test.YtoiaecfiinkmjaaDoorWakes11
import Derived.Test.YtoiaecfiinkmjaaDoorRefSee
import Derived.Test.YtoiaecfiinkmjaaDoorU64
import Derived.Test.YtoiaecfiinkmjaaDoorRowC
import Derived.Deep.DeepCutAuto
namespace Go.Proofs.YtoiaecfiinkmjaaDoor
open Go.RowKit Go.Shelf Go.Sort

theorem next_both (s t q : Int) (hok : okClk s t q = true) (ht0 : 0 ≤ t) (hq0 : 0 ≤ q) : ∃ n0 n1 n2 i0 i1 i2 e1 : Int,
    (∀ W, Calls Tryd.prog 20 #[clkV s t q] W (Ret (.tuple #[clkV n0 n1 n2, idV i0 i1 i2, .int .i64 e1]) W)) ∧
    ((e1 = 0 ∧ ∀ W, Calls Tryd.prog 22 #[clkV s t q] W (Ret (.tuple #[clkV n0 n1 n2, idV i0 i1 i2, .bool true]) W)) ∨
     (e1 = 212 ∧ (n0 = 0 ∧ n1 = 0 ∧ n2 = 0) ∧ (i0 = 0 ∧ i1 = 0 ∧ i2 = 0) ∧ ∀ W, Calls Tryd.prog 22 #[clkV s t q] W (Ret (.tuple #[clkV 0 0 0, idV 0 0 0, .bool false]) W))) := by
  have hb : t ≤ maxT ∧ q ≤ maxT := by
    simp only [okClk, Bool.and_eq_true, decide_eq_true_eq] at hok
    exact ⟨hok.1.2, hok.2⟩
  by_cases hl : t < maxT ∧ q < maxT
  · exact ⟨s, t + 1, q + 1, t + 1, s, q + 1, 0, fun W => Next_ok s t q ht0 hq0 (by unfold nextE; rw [if_pos hok, if_pos hl]) W, .inl ⟨rfl, fun W => RNext_ok s t q ht0 hq0 hl.1 hl.2 W⟩⟩
  · refine ⟨0, 0, 0, 0, 0, 0, 212, fun W => ?_, .inr ⟨rfl, ⟨rfl, rfl, rfl⟩, ⟨rfl, rfl, rfl⟩, fun W => RNext_late s t q ?_ W⟩⟩
    · have he : nextE s t q = 212 := by unfold nextE; rw [if_pos hok, if_neg hl]
      have := Next_bad s t q (by rw [he]; decide) W
      rwa [he] at this
    · unfold maxT at hb hl
      omega
theorem next_none (s t q : Int) (hok : okClk s t q = false) (W : World) : Calls Tryd.prog 20 #[clkV s t q] W (Ret (.tuple #[clkV 0 0 0, idV 0 0 0, .int .i64 211]) W) := by
  have he : nextE s t q = 211 := by unfold nextE; rw [if_neg (by rw [hok]; simp)]
  have := Next_bad s t q (by rw [he]; decide) W
  rwa [he] at this
theorem see_both (s t q : Int) (hok : okClk s t q = true) (L : List Int) : ∃ m0 m1 m2 e2 : Int,
    (∀ W a n c, RowS encU 1 W a n L → Calls Tryd.prog 21 #[clkV s t q, .slice a n c] W (Ret (.tuple #[clkV m0 m1 m2, .int .i64 e2]) W)) ∧
    ((e2 = 0 ∧ ∀ W a n c, RowS encU 1 W a n L → Calls Tryd.prog 23 #[clkV s t q, .slice a n c] W (Ret (.tuple #[clkV m0 m1 m2, .bool true]) W)) ∨
     (e2 = 2 ∧ (m0 = 0 ∧ m1 = 0 ∧ m2 = 0) ∧ ∀ W a n c, RowS encU 1 W a n L → Calls Tryd.prog 23 #[clkV s t q, .slice a n c] W (Ret (.tuple #[clkV 0 0 0, .bool false]) W))) := by
  by_cases hl : ∀ x ∈ L, x ≤ maxT
  · refine ⟨s, maxL t L, q, 0, fun W a n c h => See_ok s t q a n c L W h (by unfold seeE; rw [if_pos hok, if_pos hl]), .inl ⟨rfl, fun W a n c h => (RSee_run s t q a n c L W h).mono fun e w' he => ?_⟩⟩
    rcases he with ⟨_, he⟩ | ⟨⟨x, hx, hn⟩, _⟩
    · exact he
    · exact absurd (hl x hx) hn
  · have he : seeE s t q L = 2 := by unfold seeE; rw [if_pos hok, if_neg hl]
    refine ⟨0, 0, 0, 2, fun W a n c h => ?_, .inr ⟨rfl, ⟨rfl, rfl, rfl⟩, fun W a n c h => (RSee_run s t q a n c L W h).mono fun e w' hh => ?_⟩⟩
    · have := See_bad s t q a n c L W h (by rw [he]; decide)
      rwa [he] at this
    · rcases hh with ⟨h1, _⟩ | ⟨_, hh⟩
      · exact absurd h1 hl
      · exact hh
theorem see_none (s t q : Int) (hok : okClk s t q = false) (L : List Int) (W : World) (a : Option Addr) (n c : Nat) (h : RowS encU 1 W a n L) : Calls Tryd.prog 21 #[clkV s t q, .slice a n c] W (Ret (.tuple #[clkV 0 0 0, .int .i64 211]) W) := by
  have he : seeE s t q L = 211 := by unfold seeE; rw [if_neg (by rw [hok]; simp)]
  have := See_bad s t q a n c L W h (by rw [he]; decide)
  rwa [he] at this

theorem RowS.takeU {W : World} {a : Option Addr} {n : Nat} {L : List Int} (h : RowS encU 1 W a n L) (m : Nat) (hm : m ≤ n) : RowS encU 1 W a m (L.take m) := by
  obtain ⟨rfl, h2, h3⟩ := h
  refine ⟨by rw [List.length_take]; omega, by rw [List.length_take]; omega, ?_⟩
  rcases h3 with rfl | ⟨b, off, ea, hb, hv⟩
  · exact .inl (by simp)
  · exact .inr ⟨b, off, ea, hb, fun j x hj i v hi => hv j x (by
      rw [List.getElem?_take] at hj
      split at hj
      · exact hj
      · cases hj) i v hi⟩
theorem allEqU_self : ∀ l : List Int, Lib.allEq eqU l l = true
  | [] => rfl
  | x :: l => by simp [Lib.allEq, allEqU_self l, eqU]
/-- what is known through the loop. -/
structure FrC (w : World) (ta : Option Addr) (m : Nat) (ts : List Int) (a : Option Addr) (n : Nat) (L : List Clk) (xa : Option Addr) (xn : Nat) (xs : List Int) (X : World) : Prop where
  times : RowS encU 1 X ta m ts
  row : RowS encK 3 X a n L
  xrow : RowS encU 1 X xa xn xs
  hb : Below w.heap.size w X
theorem FrC.below {w W W' : World} {ta a xa : Option Addr} {m n xn : Nat} {ts xs : List Int} {L : List Clk} (h : FrC w ta m ts a n L xa xn xs W) (hb : Below W.heap.size W W') : FrC w ta m ts a n L xa xn xs W' :=
  ⟨h.times.below hb, h.row.below hb, h.xrow.below hb, h.hb.trans (hb.mono h.hb.size)⟩

/-- the two stores of the law. -/
def cxF (p q : Nat) (s t r i0 i1 i2 : Int) : Nat → Value → World → Prop := fun k _ W => match k with
  | 2 => Blk W p 41 (clkC s t r)
  | 3 => Blk W q 27 #[.int .u64 i0, .int .i64 i1, .int .u64 i2]
  | _ => True
def cxR (p : Nat) : Nat → World → World → Prop := fun k W W' => match k with
  | 2 => True
  | 3 => ∀ T cs, Blk W p T cs → Blk W' p T cs
  | _ => W' = W
theorem cx_no {p q : Nat} {s t r i0 i1 i2 : Int} : ∀ j ∈ [2, 3], ∀ v w, cxF p q s t r i0 i1 i2 j v w → cxF p q s t r i0 i1 i2 j undef w := by
  intro j hj v w h
  simp at hj
  rcases hj with rfl | rfl <;> exact h
theorem cx_stab {late : Nat → Nat → Bool} {p q : Nat} {s t r i0 i1 i2 : Int} (h34 : late 2 3 = true) : Rely.Outlasts (cxF p q s t r i0 i1 i2) (cxR p) late := by
  intro j k v w w' hl hne hR hF
  unfold cxR at hR
  split at hR
  · unfold cxF at hF ⊢
    split
    · exact absurd rfl hne
    · rw [h34] at hl; cases hl
    · trivial
  · unfold cxF at hF ⊢
    split
    · exact hR _ _ hF
    · exact absurd rfl hne
    · trivial
  · subst hR; exact hF

set_option maxRecDepth 100000 in
set_option maxHeartbeats 8000000 in
theorem clocks_run (a : Option Addr) (n c : Nat) (L : List Clk) (xa : Option Addr) (xn xc : Nat) (xs ts : List Int) (m : Nat) (w : World) (hS : RowS encK 3 w a n L) (hX : RowS encU 1 w xa xn xs) (hnc : xn ≤ xc) (hin : ∀ x ∈ L, x.In) (hm : m = min xn 6) (hl : ts = xs.take m) (htab : Tab w) :
    Calls Tryd.prog 5 #[.slice a n c, .slice xa xn xc] w (Ret (.bool true) w) := by
  have HS := Lib.hid hS
  have HX := Lib.hid hX
  have HIN := Lib.hid hin
  have hmm : (min (xn : Int) 6).toNat = m := by omega
  have hn0 : (0 : Int) ≤ min (xn : Int) 6 := by omega
  have hnc' : min (xn : Int) 6 ≤ (xc : Int) := by omega
  have HMN := Lib.hid (And.intro hm hl)
  have HT := Lib.hid htab
  clear hS hX hin hm hl htab
  go_enter Tryd.func5, Tryd.ntmps5
  go_wp2_with fail
  refine (wakes_any _ HT.out).mono ?_
  rintro e X ⟨rfl, hb⟩
  have HB := Lib.hid hb
  replace HS := Lib.hid (HS.out.below hb)
  replace HX := Lib.hid (HX.out.below hb)
  clear hb HT
  go_wp2_with fail
  refine (CloneU xa m xc ts X (by rw [HMN.out.2]; exact HX.out.takeU m (by have := HMN.out.1; omega)) (by rw [HMN.out.2, List.length_take]; have := HMN.out.1; omega)).mono ?_
  rintro e X1 ⟨ta, tc, rfl, hr, hb⟩
  have HF : Hid (FrC w ta m ts a n L xa xn xs X1) := ⟨hr, HS.out.below hb, HX.out.below hb, HB.out.trans (hb.mono HB.out.size)⟩
  clear hb hr HB HS HX
  go_wp2_with fail
  go_loopw [36] (fun i wr => ∃ k : Nat, k ≤ n ∧ i = .int .i64 k ∧ Below X1.heap.size X1 wr) (fun i _ => n - (intOf i).toNat)
  case atStart => exact ⟨0, Nat.zero_le _, rfl, Below.refl _ _⟩
  case round =>
    obtain ⟨k, hk, rfl, hBr⟩ := hrel
    have HBr := Lib.hid hBr
    have HML : Hid (n = L.length) := HF.out.row.1
    have HNB : Hid (n ≤ 9223372036854775807) := by have h1 := HF.out.row.2.1; have h2 := HF.out.row.1; show n ≤ _; omega
    clear hBr
    by_cases hlt : k < n
    · have hkn : (k : Int) < (n : Int) := by omega
      obtain ⟨b, off, rfl, hbl, hv⟩ := HF.out.row.2.2.resolve_left (fun e => by have := HML.out; rw [e] at this; simp at this; omega)
      obtain ⟨x, hx⟩ : ∃ x, L[k]? = some x := ⟨_, List.getElem?_eq_getElem (by have := HML.out; omega)⟩
      have hxin := HIN.out x (List.mem_of_getElem? hx)
      have x0 : wr.cell? ⟨b, off + k * 3, none⟩ = some (.int .i64 x.s) := (HBr.out.cell (p := ⟨b, off + k * 3, none⟩) hbl).trans (hv k x hx 0 _ rfl)
      have x1 : wr.cell? ⟨b, off + k * 3 + 1, none⟩ = some (.int .u64 x.t) := (HBr.out.cell (p := ⟨b, off + k * 3 + 1, none⟩) hbl).trans (hv k x hx 1 _ rfl)
      have x2 : wr.cell? ⟨b, off + k * 3 + 2, none⟩ = some (.int .u64 x.q) := (HBr.out.cell (p := ⟨b, off + k * 3 + 2, none⟩) hbl).trans (hv k x hx 2 _ rfl)
      clear hv hx
      obtain ⟨s, t, q⟩ := x
      have HI : Hid (0 ≤ t ∧ 0 ≤ q) := ⟨hxin.t0, hxin.q0⟩
      clear hxin
      simp only at x0 x1 x2
      have HF0 := HF
      have HBr0 := HBr
      replace HF := Lib.hid ((HF.out.below HBr.out).below ((Below.refl _ _).alloc (Nat.le_refl _) (.cells (clkC s t q) 41)))
      have H7 := Lib.hid (Blk.new wr 41 (clkC s t q))
      replace HBr := Lib.hid (HBr.out.alloc HBr.out.size (.cells (clkC s t q) 41))
      go_upto_region 7 with fail
      clear x0 x1 x2 HF0 HBr0
      generalize wr.alloc (.cells (clkC s t q) 41) = V0 at H7 HF HBr ⊢
      generalize wr.heap.size = p7 at H7 ⊢
      by_cases hk10 : k = 10
      · subst hk10
        clear hkn HML HNB HI H7 HBr
        have hm0 : (0 : Int) ≤ (m : Int) := by omega
        have hmc : (m : Int) ≤ (xc : Int) := by have := HMN.out.1; omega
        go_wp2_with fail
        have hxs : RowS encU 1 V0 xa m ts := by
          have := HF.out.xrow.takeU m (by have := HMN.out.1; omega)
          rwa [← HMN.out.2] at this
        refine (EqualU ta xa m tc m xc ts ts _ HF.out.times hxs).mono ?_
        rintro e Y9 ⟨he, qq, hw⟩
        rw [allEqU_self] at he
        subst he
        have HBZ : Hid (Below w.heap.size w Y9) := by rw [hw]; exact HF.out.hb.trans (below_drewW _ _)
        clear hw hxs HF
        go_wp2_with fail
        go_ret
        exact ⟨rfl, HBZ.out⟩
      · have hb10 : ((k : Int) == 10) = false := by simp; omega
        have HK := Lib.hid (And.intro hlt hkn)
        clear hlt hkn hk10
        cases hok : okClk s t q with
        | false =>
          cases hsb : siteB s with
          | false =>
            have HRC : Hid (∀ W, Calls Tryd.prog 16 #[clkV s t q] W (Ret (.bool false) W)) := fun W => by have := RClock_any s t q W; rwa [hok] at this
            have HCC : Hid (∀ W, Calls Tryd.prog 17 #[clkV s t q] W (Ret (.int .i64 211) W)) := fun W => by have := CheckClock_any s t q W; rwa [if_neg (by rw [hok]; simp)] at this
            have HNW : Hid (∀ W, Calls Tryd.prog 18 #[.int .i64 s] W (Ret (.tuple #[clkV 0 0 0, .int .i64 2]) W)) := fun W => by have := New_any s W; rwa [if_neg (by rw [hsb]; simp), if_neg (by rw [hsb]; simp)] at this
            have HRS : Hid (∀ W, Calls Tryd.prog 19 #[.int .i64 s] W fun e w' => e = .returned (.bool false) ∧ W = w') := fun W => by have := rsite_any s W; rwa [hsb] at this
            obtain ⟨n0, n1, n2, i0, i1, i2, e1, HNX, hz⟩ : ∃ n0 n1 n2 i0 i1 i2 e1 : Int, Hid (∀ W, Calls Tryd.prog 20 #[clkV s t q] W (Ret (.tuple #[clkV n0 n1 n2, idV i0 i1 i2, .int .i64 e1]) W)) ∧ (n0 = 0 ∧ n1 = 0 ∧ n2 = 0 ∧ i0 = 0 ∧ i1 = 0 ∧ i2 = 0 ∧ e1 = 211) := ⟨0, 0, 0, 0, 0, 0, 211, fun W => next_none s t q hok W, rfl, rfl, rfl, rfl, rfl, rfl, rfl⟩
            obtain ⟨m0, m1, m2, e2, HSE, hy⟩ : ∃ m0 m1 m2 e2 : Int, Hid (∀ W a n c, RowS encU 1 W a n ts → Calls Tryd.prog 21 #[clkV s t q, .slice a n c] W (Ret (.tuple #[clkV m0 m1 m2, .int .i64 e2]) W)) ∧ (m0 = 0 ∧ m1 = 0 ∧ m2 = 0 ∧ e2 = 211) := ⟨0, 0, 0, 211, fun W a n c h => see_none s t q hok ts W a n c h, rfl, rfl, rfl, rfl⟩
            have HZ := Lib.hid (And.intro hz hy)
            clear hz hy hok hsb
            have c0 := H7.out.cell 0
            have c1 := H7.out.cell 1
            have c2 := H7.out.cell 2
            simp at c0 c1 c2
            go_wp2_with fail
            refine (HRC.out _).mono ?_
            rintro e V1 ⟨rfl, hb⟩
            replace HF := Lib.hid (HF.out.below hb)
            replace H7 := Lib.hid (H7.out.below hb H7.out.lt)
            replace HBr := Lib.hid (HBr.out.trans (hb.mono HBr.out.size))
            clear hb c0 c1 c2
            have c0 := H7.out.cell 0
            have c1 := H7.out.cell 1
            have c2 := H7.out.cell 2
            simp at c0 c1 c2
            go_wp2_with fail
            refine (HCC.out _).mono ?_
            rintro e V2 ⟨rfl, hb⟩
            replace HF := Lib.hid (HF.out.below hb)
            replace H7 := Lib.hid (H7.out.below hb H7.out.lt)
            replace HBr := Lib.hid (HBr.out.trans (hb.mono HBr.out.size))
            clear hb c0 c1 c2
            have c0 := H7.out.cell 0
            have c1 := H7.out.cell 1
            have c2 := H7.out.cell 2
            simp at c0 c1 c2
            go_wp2_with fail
            refine (HNW.out _).mono ?_
            rintro e V3 ⟨rfl, hb⟩
            replace HF := Lib.hid (HF.out.below hb)
            replace H7 := Lib.hid (H7.out.below hb H7.out.lt)
            replace HBr := Lib.hid (HBr.out.trans (hb.mono HBr.out.size))
            clear hb c0 c1 c2
            go_upto_region 13 with (refine L_kstore (.tmp 10) (.tmp 63) (0) 0 0 rfl rfl (Blk.new _ _ _) ?_)
            have hb : Below V3.heap.size V3 ((V3.alloc (.cells (clkC 0 0 0) 41)).setRow V3.heap.size (clkC (0) 0 0)) := below_setRowK ((Below.refl _ _).alloc (Nat.le_refl _) _) (Nat.le_refl _) _
            have H10 := Lib.hid ((Blk.new V3 41 (clkC 0 0 0)).row (clkC (0) 0 0))
            replace HF := Lib.hid (HF.out.below hb)
            replace H7 := Lib.hid (H7.out.below hb H7.out.lt)
            replace HBr := Lib.hid (HBr.out.trans (hb.mono HBr.out.size))
            clear hb
            generalize (V3.alloc (.cells (clkC 0 0 0) 41)).setRow V3.heap.size (clkC (0) 0 0) = U3 at HF H7 HBr H10 ⊢
            generalize V3.heap.size = p10 at H10 ⊢
            have c0 := H7.out.cell 0
            have c1 := H7.out.cell 1
            have c2 := H7.out.cell 2
            simp at c0 c1 c2
            go_wp2_with fail
            refine (HRS.out _).mono ?_
            rintro e U4 ⟨rfl, rfl⟩
            have d0 := H10.out.cell 0
            have d1 := H10.out.cell 1
            have d2 := H10.out.cell 2
            simp at d0 d1 d2
            go_wp2_with fail
            refine (HNX.out _).mono ?_
            rintro e V5 ⟨rfl, hb⟩
            replace HF := Lib.hid (HF.out.below hb)
            replace H7 := Lib.hid (H7.out.below hb H7.out.lt)
            replace HBr := Lib.hid (HBr.out.trans (hb.mono HBr.out.size))
            clear hb c0 c1 c2 d0 d1 d2 H10 HRC HCC HNW HRS
            have H12 := Lib.hid ((Blk.new V5 41 (clkC 0 0 0)).alloc (.cells #[.int .u64 0, .int .i64 0, .int .u64 0] 27))
            have b5 := Blk.new (V5.alloc (.cells (clkC 0 0 0) 41)) 27 #[.int .u64 0, .int .i64 0, .int .u64 0]
            rw [World.size_alloc] at b5
            have H13 := Lib.hid (b5.row_other (k := V5.heap.size) (by omega) (clkC n0 n1 n2))
            clear b5
            go_upto_region 19 with (first
              | (refine L_kstore (.tmp 12) (.tmp 87) n0 n1 n2 rfl rfl H12.out ?_)
              | (refine L_istoreV (.tmp 13) (.tmp 88) i0 i1 i2 rfl rfl H13.out ?_))
            have hb : Below V5.heap.size V5 ((((V5.alloc (.cells (clkC 0 0 0) 41)).alloc (.cells #[.int .u64 0, .int .i64 0, .int .u64 0] 27)).setRow V5.heap.size (clkC n0 n1 n2)).setRow (V5.heap.size + 1) #[.int .u64 i0, .int .i64 i1, .int .u64 i2]) := below_setRowK (below_setRowK (((Below.refl _ _).alloc (Nat.le_refl _) _).alloc (by simp) _) (Nat.le_refl _) _) (by omega) _
            replace H12 := Lib.hid ((H12.out.row (clkC n0 n1 n2)).row_other (k := V5.heap.size + 1) (by omega) #[.int .u64 i0, .int .i64 i1, .int .u64 i2])
            replace H13 := Lib.hid (H13.out.row #[.int .u64 i0, .int .i64 i1, .int .u64 i2])
            replace HF := Lib.hid (HF.out.below hb)
            replace H7 := Lib.hid (H7.out.below hb H7.out.lt)
            replace HBr := Lib.hid (HBr.out.trans (hb.mono HBr.out.size))
            clear hb
            generalize (((V5.alloc (.cells (clkC 0 0 0) 41)).alloc (.cells #[.int .u64 0, .int .i64 0, .int .u64 0] 27)).setRow V5.heap.size (clkC n0 n1 n2)).setRow (V5.heap.size + 1) #[.int .u64 i0, .int .i64 i1, .int .u64 i2] = U5 at HF H7 HBr H12 H13 ⊢
            generalize V5.heap.size + 1 = p13 at H13 ⊢
            generalize V5.heap.size = p12 at H12 ⊢
            have c0 := H7.out.cell 0
            have c1 := H7.out.cell 1
            have c2 := H7.out.cell 2
            simp at c0 c1 c2
            go_wp2_with fail
            refine (HSE.out _ _ _ _ HF.out.times).mono ?_
            rintro e V6 ⟨rfl, hb⟩
            replace HF := Lib.hid (HF.out.below hb)
            replace H7 := Lib.hid (H7.out.below hb H7.out.lt)
            replace HBr := Lib.hid (HBr.out.trans (hb.mono HBr.out.size))
            replace H12 := Lib.hid (H12.out.below hb H12.out.lt)
            replace H13 := Lib.hid (H13.out.below hb H13.out.lt)
            clear hb c0 c1 c2 HNX HSE
            go_upto_region 20 with (refine L_kstore (.tmp 14) (.tmp 94) m0 m1 m2 rfl rfl (Blk.new _ _ _) ?_)
            have hb : Below V6.heap.size V6 ((V6.alloc (.cells (clkC 0 0 0) 41)).setRow V6.heap.size (clkC m0 m1 m2)) := below_setRowK ((Below.refl _ _).alloc (Nat.le_refl _) _) (Nat.le_refl _) _
            have H14 := Lib.hid ((Blk.new V6 41 (clkC 0 0 0)).row (clkC m0 m1 m2))
            replace HF := Lib.hid (HF.out.below hb)
            replace H7 := Lib.hid (H7.out.below hb H7.out.lt)
            replace HBr := Lib.hid (HBr.out.trans (hb.mono HBr.out.size))
            replace H12 := Lib.hid (H12.out.below hb H12.out.lt)
            replace H13 := Lib.hid (H13.out.below hb H13.out.lt)
            clear hb
            generalize (V6.alloc (.cells (clkC 0 0 0) 41)).setRow V6.heap.size (clkC m0 m1 m2) = U6 at HF H7 HBr H12 H13 H14 ⊢
            generalize V6.heap.size = p14 at H14 ⊢
            have N7 : Hid (p7 < U6.heap.size) := H7.out.lt
            have N14 : Hid (p12 < U6.heap.size ∧ p13 < U6.heap.size ∧ p14 < U6.heap.size) := ⟨H12.out.lt, H13.out.lt, H14.out.lt⟩
            have HF6 := HF
            have HBr6 := HBr
            have H76 := H7
            have H126 := H12
            have H136 := H13
            have H146 := H14
            go_upto_if 96 with fail
            have hb : Below U6.heap.size U6 (((U6.alloc (.cells (clkC 0 0 0) 41)).alloc (.cells (clkC 0 0 0) 41)).alloc (.cells #[.int .u64 0, .int .i64 0, .int .u64 0] 27)) := by go_grown
            have b16 := ((Blk.new U6 41 (clkC 0 0 0)).alloc (.cells (clkC 0 0 0) 41)).alloc (.cells #[.int .u64 0, .int .i64 0, .int .u64 0] 27)
            have b17 := (Blk.new (U6.alloc (.cells (clkC 0 0 0) 41)) 41 (clkC 0 0 0)).alloc (.cells #[.int .u64 0, .int .i64 0, .int .u64 0] 27)
            have b18 := Blk.new ((U6.alloc (.cells (clkC 0 0 0) 41)).alloc (.cells (clkC 0 0 0) 41)) 27 #[.int .u64 0, .int .i64 0, .int .u64 0]
            simp only [World.size_alloc] at b17 b18
            replace HF := Lib.hid (HF.out.below hb)
            replace H7 := Lib.hid (H7.out.below hb H7.out.lt)
            replace HBr := Lib.hid (HBr.out.trans (hb.mono HBr.out.size))
            have HBU := Lib.hid hb
            have H16 := Lib.hid b16
            have H17 := Lib.hid b17
            have H18 := Lib.hid b18
            clear b16 b17 b18 hb
            generalize ((U6.alloc (.cells (clkC 0 0 0) 41)).alloc (.cells (clkC 0 0 0) 41)).alloc (.cells #[.int .u64 0, .int .i64 0, .int .u64 0] 27) = U7 at HF H7 HBr HBU H16 H17 H18 ⊢
            clear H12 H13 H14 HBr
            obtain ⟨⟨rfl, rfl, rfl, rfl, rfl, rfl, rfl⟩, rfl, rfl, rfl, rfl⟩ := HZ.out
            have H12 := Lib.hid (H126.out.below HBU.out H126.out.lt)
            have H13 := Lib.hid (H136.out.below HBU.out H136.out.lt)
            have H14 := Lib.hid (H146.out.below HBU.out H146.out.lt)
            have HBr := Lib.hid (HBr6.out.trans (HBU.out.mono HBr6.out.size))
            clear H126 H136 H146 HBr6 HF6 HF H7 HBU H76
            have c0 := H12.out.cell 0
            have c1 := H12.out.cell 1
            have c2 := H12.out.cell 2
            have d0 := H13.out.cell 0
            have d1 := H13.out.cell 1
            have d2 := H13.out.cell 2
            have f0 := H14.out.cell 0
            have f1 := H14.out.cell 1
            have f2 := H14.out.cell 2
            have g0 := H16.out.cell 0
            have g1 := H16.out.cell 1
            have g2 := H16.out.cell 2
            have j0 := H17.out.cell 0
            have j1 := H17.out.cell 1
            have j2 := H17.out.cell 2
            have k0 := H18.out.cell 0
            have k1 := H18.out.cell 1
            have k2 := H18.out.cell 2
            simp at c0 c1 c2 d0 d1 d2 f0 f1 f2 g0 g1 g2 j0 j1 j2 k0 k1 k2
            have hlt := HK.out.1
            have hnb := HNB.out
            go_wp2_with fail
            go_roundw
            case rel => exact ⟨k + 1, by omega, by go_num, HBr.out⟩
            case measure => simp [intOf]; omega
          | true =>
            have HRC : Hid (∀ W, Calls Tryd.prog 16 #[clkV s t q] W (Ret (.bool false) W)) := fun W => by have := RClock_any s t q W; rwa [hok] at this
            have HCC : Hid (∀ W, Calls Tryd.prog 17 #[clkV s t q] W (Ret (.int .i64 211) W)) := fun W => by have := CheckClock_any s t q W; rwa [if_neg (by rw [hok]; simp)] at this
            have HNW : Hid (∀ W, Calls Tryd.prog 18 #[.int .i64 s] W (Ret (.tuple #[clkV s 0 0, .int .i64 0]) W)) := fun W => by have := New_any s W; rwa [if_pos hsb, if_pos hsb] at this
            have HRS : Hid (∀ W, Calls Tryd.prog 19 #[.int .i64 s] W fun e w' => e = .returned (.bool true) ∧ W = w') := fun W => by have := rsite_any s W; rwa [hsb] at this
            obtain ⟨n0, n1, n2, i0, i1, i2, e1, HNX, hz⟩ : ∃ n0 n1 n2 i0 i1 i2 e1 : Int, Hid (∀ W, Calls Tryd.prog 20 #[clkV s t q] W (Ret (.tuple #[clkV n0 n1 n2, idV i0 i1 i2, .int .i64 e1]) W)) ∧ (n0 = 0 ∧ n1 = 0 ∧ n2 = 0 ∧ i0 = 0 ∧ i1 = 0 ∧ i2 = 0 ∧ e1 = 211) := ⟨0, 0, 0, 0, 0, 0, 211, fun W => next_none s t q hok W, rfl, rfl, rfl, rfl, rfl, rfl, rfl⟩
            obtain ⟨m0, m1, m2, e2, HSE, hy⟩ : ∃ m0 m1 m2 e2 : Int, Hid (∀ W a n c, RowS encU 1 W a n ts → Calls Tryd.prog 21 #[clkV s t q, .slice a n c] W (Ret (.tuple #[clkV m0 m1 m2, .int .i64 e2]) W)) ∧ (m0 = 0 ∧ m1 = 0 ∧ m2 = 0 ∧ e2 = 211) := ⟨0, 0, 0, 211, fun W a n c h => see_none s t q hok ts W a n c h, rfl, rfl, rfl, rfl⟩
            have HZ := Lib.hid (And.intro hz hy)
            clear hz hy hok hsb
            have c0 := H7.out.cell 0
            have c1 := H7.out.cell 1
            have c2 := H7.out.cell 2
            simp at c0 c1 c2
            go_wp2_with fail
            refine (HRC.out _).mono ?_
            rintro e V1 ⟨rfl, hb⟩
            replace HF := Lib.hid (HF.out.below hb)
            replace H7 := Lib.hid (H7.out.below hb H7.out.lt)
            replace HBr := Lib.hid (HBr.out.trans (hb.mono HBr.out.size))
            clear hb c0 c1 c2
            have c0 := H7.out.cell 0
            have c1 := H7.out.cell 1
            have c2 := H7.out.cell 2
            simp at c0 c1 c2
            go_wp2_with fail
            refine (HCC.out _).mono ?_
            rintro e V2 ⟨rfl, hb⟩
            replace HF := Lib.hid (HF.out.below hb)
            replace H7 := Lib.hid (H7.out.below hb H7.out.lt)
            replace HBr := Lib.hid (HBr.out.trans (hb.mono HBr.out.size))
            clear hb c0 c1 c2
            have c0 := H7.out.cell 0
            have c1 := H7.out.cell 1
            have c2 := H7.out.cell 2
            simp at c0 c1 c2
            go_wp2_with fail
            refine (HNW.out _).mono ?_
            rintro e V3 ⟨rfl, hb⟩
            replace HF := Lib.hid (HF.out.below hb)
            replace H7 := Lib.hid (H7.out.below hb H7.out.lt)
            replace HBr := Lib.hid (HBr.out.trans (hb.mono HBr.out.size))
            clear hb c0 c1 c2
            go_upto_region 13 with (refine L_kstore (.tmp 10) (.tmp 63) (s) 0 0 rfl rfl (Blk.new _ _ _) ?_)
            have hb : Below V3.heap.size V3 ((V3.alloc (.cells (clkC 0 0 0) 41)).setRow V3.heap.size (clkC (s) 0 0)) := below_setRowK ((Below.refl _ _).alloc (Nat.le_refl _) _) (Nat.le_refl _) _
            have H10 := Lib.hid ((Blk.new V3 41 (clkC 0 0 0)).row (clkC (s) 0 0))
            replace HF := Lib.hid (HF.out.below hb)
            replace H7 := Lib.hid (H7.out.below hb H7.out.lt)
            replace HBr := Lib.hid (HBr.out.trans (hb.mono HBr.out.size))
            clear hb
            generalize (V3.alloc (.cells (clkC 0 0 0) 41)).setRow V3.heap.size (clkC (s) 0 0) = U3 at HF H7 HBr H10 ⊢
            generalize V3.heap.size = p10 at H10 ⊢
            have c0 := H7.out.cell 0
            have c1 := H7.out.cell 1
            have c2 := H7.out.cell 2
            simp at c0 c1 c2
            go_wp2_with fail
            refine (HRS.out _).mono ?_
            rintro e U4 ⟨rfl, rfl⟩
            have d0 := H10.out.cell 0
            have d1 := H10.out.cell 1
            have d2 := H10.out.cell 2
            simp at d0 d1 d2
            go_wp2_with fail
            refine (HNX.out _).mono ?_
            rintro e V5 ⟨rfl, hb⟩
            replace HF := Lib.hid (HF.out.below hb)
            replace H7 := Lib.hid (H7.out.below hb H7.out.lt)
            replace HBr := Lib.hid (HBr.out.trans (hb.mono HBr.out.size))
            clear hb c0 c1 c2 d0 d1 d2 H10 HRC HCC HNW HRS
            have H12 := Lib.hid ((Blk.new V5 41 (clkC 0 0 0)).alloc (.cells #[.int .u64 0, .int .i64 0, .int .u64 0] 27))
            have b5 := Blk.new (V5.alloc (.cells (clkC 0 0 0) 41)) 27 #[.int .u64 0, .int .i64 0, .int .u64 0]
            rw [World.size_alloc] at b5
            have H13 := Lib.hid (b5.row_other (k := V5.heap.size) (by omega) (clkC n0 n1 n2))
            clear b5
            go_upto_region 19 with (first
              | (refine L_kstore (.tmp 12) (.tmp 87) n0 n1 n2 rfl rfl H12.out ?_)
              | (refine L_istoreV (.tmp 13) (.tmp 88) i0 i1 i2 rfl rfl H13.out ?_))
            have hb : Below V5.heap.size V5 ((((V5.alloc (.cells (clkC 0 0 0) 41)).alloc (.cells #[.int .u64 0, .int .i64 0, .int .u64 0] 27)).setRow V5.heap.size (clkC n0 n1 n2)).setRow (V5.heap.size + 1) #[.int .u64 i0, .int .i64 i1, .int .u64 i2]) := below_setRowK (below_setRowK (((Below.refl _ _).alloc (Nat.le_refl _) _).alloc (by simp) _) (Nat.le_refl _) _) (by omega) _
            replace H12 := Lib.hid ((H12.out.row (clkC n0 n1 n2)).row_other (k := V5.heap.size + 1) (by omega) #[.int .u64 i0, .int .i64 i1, .int .u64 i2])
            replace H13 := Lib.hid (H13.out.row #[.int .u64 i0, .int .i64 i1, .int .u64 i2])
            replace HF := Lib.hid (HF.out.below hb)
            replace H7 := Lib.hid (H7.out.below hb H7.out.lt)
            replace HBr := Lib.hid (HBr.out.trans (hb.mono HBr.out.size))
            clear hb
            generalize (((V5.alloc (.cells (clkC 0 0 0) 41)).alloc (.cells #[.int .u64 0, .int .i64 0, .int .u64 0] 27)).setRow V5.heap.size (clkC n0 n1 n2)).setRow (V5.heap.size + 1) #[.int .u64 i0, .int .i64 i1, .int .u64 i2] = U5 at HF H7 HBr H12 H13 ⊢
            generalize V5.heap.size + 1 = p13 at H13 ⊢
            generalize V5.heap.size = p12 at H12 ⊢
            have c0 := H7.out.cell 0
            have c1 := H7.out.cell 1
            have c2 := H7.out.cell 2
            simp at c0 c1 c2
            go_wp2_with fail
            refine (HSE.out _ _ _ _ HF.out.times).mono ?_
            rintro e V6 ⟨rfl, hb⟩
            replace HF := Lib.hid (HF.out.below hb)
            replace H7 := Lib.hid (H7.out.below hb H7.out.lt)
            replace HBr := Lib.hid (HBr.out.trans (hb.mono HBr.out.size))
            replace H12 := Lib.hid (H12.out.below hb H12.out.lt)
            replace H13 := Lib.hid (H13.out.below hb H13.out.lt)
            clear hb c0 c1 c2 HNX HSE
            go_upto_region 20 with (refine L_kstore (.tmp 14) (.tmp 94) m0 m1 m2 rfl rfl (Blk.new _ _ _) ?_)
            have hb : Below V6.heap.size V6 ((V6.alloc (.cells (clkC 0 0 0) 41)).setRow V6.heap.size (clkC m0 m1 m2)) := below_setRowK ((Below.refl _ _).alloc (Nat.le_refl _) _) (Nat.le_refl _) _
            have H14 := Lib.hid ((Blk.new V6 41 (clkC 0 0 0)).row (clkC m0 m1 m2))
            replace HF := Lib.hid (HF.out.below hb)
            replace H7 := Lib.hid (H7.out.below hb H7.out.lt)
            replace HBr := Lib.hid (HBr.out.trans (hb.mono HBr.out.size))
            replace H12 := Lib.hid (H12.out.below hb H12.out.lt)
            replace H13 := Lib.hid (H13.out.below hb H13.out.lt)
            clear hb
            generalize (V6.alloc (.cells (clkC 0 0 0) 41)).setRow V6.heap.size (clkC m0 m1 m2) = U6 at HF H7 HBr H12 H13 H14 ⊢
            generalize V6.heap.size = p14 at H14 ⊢
            have N7 : Hid (p7 < U6.heap.size) := H7.out.lt
            have N14 : Hid (p12 < U6.heap.size ∧ p13 < U6.heap.size ∧ p14 < U6.heap.size) := ⟨H12.out.lt, H13.out.lt, H14.out.lt⟩
            have HF6 := HF
            have HBr6 := HBr
            have H76 := H7
            have H126 := H12
            have H136 := H13
            have H146 := H14
            go_upto_if 96 with fail
            have hb : Below U6.heap.size U6 (((U6.alloc (.cells (clkC 0 0 0) 41)).alloc (.cells (clkC 0 0 0) 41)).alloc (.cells #[.int .u64 0, .int .i64 0, .int .u64 0] 27)) := by go_grown
            have b16 := ((Blk.new U6 41 (clkC 0 0 0)).alloc (.cells (clkC 0 0 0) 41)).alloc (.cells #[.int .u64 0, .int .i64 0, .int .u64 0] 27)
            have b17 := (Blk.new (U6.alloc (.cells (clkC 0 0 0) 41)) 41 (clkC 0 0 0)).alloc (.cells #[.int .u64 0, .int .i64 0, .int .u64 0] 27)
            have b18 := Blk.new ((U6.alloc (.cells (clkC 0 0 0) 41)).alloc (.cells (clkC 0 0 0) 41)) 27 #[.int .u64 0, .int .i64 0, .int .u64 0]
            simp only [World.size_alloc] at b17 b18
            replace HF := Lib.hid (HF.out.below hb)
            replace H7 := Lib.hid (H7.out.below hb H7.out.lt)
            replace HBr := Lib.hid (HBr.out.trans (hb.mono HBr.out.size))
            have HBU := Lib.hid hb
            have H16 := Lib.hid b16
            have H17 := Lib.hid b17
            have H18 := Lib.hid b18
            clear b16 b17 b18 hb
            generalize ((U6.alloc (.cells (clkC 0 0 0) 41)).alloc (.cells (clkC 0 0 0) 41)).alloc (.cells #[.int .u64 0, .int .i64 0, .int .u64 0] 27) = U7 at HF H7 HBr HBU H16 H17 H18 ⊢
            clear H12 H13 H14 HBr
            obtain ⟨⟨rfl, rfl, rfl, rfl, rfl, rfl, rfl⟩, rfl, rfl, rfl, rfl⟩ := HZ.out
            have H12 := Lib.hid (H126.out.below HBU.out H126.out.lt)
            have H13 := Lib.hid (H136.out.below HBU.out H136.out.lt)
            have H14 := Lib.hid (H146.out.below HBU.out H146.out.lt)
            have HBr := Lib.hid (HBr6.out.trans (HBU.out.mono HBr6.out.size))
            clear H126 H136 H146 HBr6 HF6 HF H7 HBU H76
            have c0 := H12.out.cell 0
            have c1 := H12.out.cell 1
            have c2 := H12.out.cell 2
            have d0 := H13.out.cell 0
            have d1 := H13.out.cell 1
            have d2 := H13.out.cell 2
            have f0 := H14.out.cell 0
            have f1 := H14.out.cell 1
            have f2 := H14.out.cell 2
            have g0 := H16.out.cell 0
            have g1 := H16.out.cell 1
            have g2 := H16.out.cell 2
            have j0 := H17.out.cell 0
            have j1 := H17.out.cell 1
            have j2 := H17.out.cell 2
            have k0 := H18.out.cell 0
            have k1 := H18.out.cell 1
            have k2 := H18.out.cell 2
            simp at c0 c1 c2 d0 d1 d2 f0 f1 f2 g0 g1 g2 j0 j1 j2 k0 k1 k2
            have hlt := HK.out.1
            have hnb := HNB.out
            go_wp2_with fail
            go_roundw
            case rel => exact ⟨k + 1, by omega, by go_num, HBr.out⟩
            case measure => simp [intOf]; omega
        | true =>
          have hsb : siteB s = true := by
            simp only [okClk, Bool.and_eq_true] at hok
            exact hok.1.1
          have HRC : Hid (∀ W, Calls Tryd.prog 16 #[clkV s t q] W (Ret (.bool true) W)) := fun W => by have := RClock_any s t q W; rwa [hok] at this
          have HCC : Hid (∀ W, Calls Tryd.prog 17 #[clkV s t q] W (Ret (.int .i64 0) W)) := fun W => by have := CheckClock_any s t q W; rwa [if_pos hok] at this
          have HNW : Hid (∀ W, Calls Tryd.prog 18 #[.int .i64 s] W (Ret (.tuple #[clkV s 0 0, .int .i64 0]) W)) := fun W => by have := New_any s W; rwa [if_pos hsb, if_pos hsb] at this
          have HRS : Hid (∀ W, Calls Tryd.prog 19 #[.int .i64 s] W fun e w' => e = .returned (.bool true) ∧ W = w') := fun W => by have := rsite_any s W; rwa [hsb] at this
          obtain ⟨n0, n1, n2, i0, i1, i2, e1, hnx, hrn⟩ := next_both s t q hok HI.out.1 HI.out.2
          obtain ⟨m0, m1, m2, e2, hse, hrs⟩ := see_both s t q hok ts
          have HNX := Lib.hid hnx
          have HSE := Lib.hid hse
          have HRN := Lib.hid hrn
          have HRSE := Lib.hid hrs
          clear hnx hse hrn hrs hok hsb
          have c0 := H7.out.cell 0
          have c1 := H7.out.cell 1
          have c2 := H7.out.cell 2
          simp at c0 c1 c2
          go_wp2_with fail
          refine (HRC.out _).mono ?_
          rintro e V1 ⟨rfl, hb⟩
          replace HF := Lib.hid (HF.out.below hb)
          replace H7 := Lib.hid (H7.out.below hb H7.out.lt)
          replace HBr := Lib.hid (HBr.out.trans (hb.mono HBr.out.size))
          clear hb c0 c1 c2
          have c0 := H7.out.cell 0
          have c1 := H7.out.cell 1
          have c2 := H7.out.cell 2
          simp at c0 c1 c2
          go_wp2_with fail
          refine (HCC.out _).mono ?_
          rintro e V2 ⟨rfl, hb⟩
          replace HF := Lib.hid (HF.out.below hb)
          replace H7 := Lib.hid (H7.out.below hb H7.out.lt)
          replace HBr := Lib.hid (HBr.out.trans (hb.mono HBr.out.size))
          clear hb c0 c1 c2
          have c0 := H7.out.cell 0
          have c1 := H7.out.cell 1
          have c2 := H7.out.cell 2
          simp at c0 c1 c2
          go_wp2_with fail
          refine (HNW.out _).mono ?_
          rintro e V3 ⟨rfl, hb⟩
          replace HF := Lib.hid (HF.out.below hb)
          replace H7 := Lib.hid (H7.out.below hb H7.out.lt)
          replace HBr := Lib.hid (HBr.out.trans (hb.mono HBr.out.size))
          clear hb c0 c1 c2
          go_upto_region 13 with (refine L_kstore (.tmp 10) (.tmp 63) (s) 0 0 rfl rfl (Blk.new _ _ _) ?_)
          have hb : Below V3.heap.size V3 ((V3.alloc (.cells (clkC 0 0 0) 41)).setRow V3.heap.size (clkC (s) 0 0)) := below_setRowK ((Below.refl _ _).alloc (Nat.le_refl _) _) (Nat.le_refl _) _
          have H10 := Lib.hid ((Blk.new V3 41 (clkC 0 0 0)).row (clkC (s) 0 0))
          replace HF := Lib.hid (HF.out.below hb)
          replace H7 := Lib.hid (H7.out.below hb H7.out.lt)
          replace HBr := Lib.hid (HBr.out.trans (hb.mono HBr.out.size))
          clear hb
          generalize (V3.alloc (.cells (clkC 0 0 0) 41)).setRow V3.heap.size (clkC (s) 0 0) = U3 at HF H7 HBr H10 ⊢
          generalize V3.heap.size = p10 at H10 ⊢
          have c0 := H7.out.cell 0
          have c1 := H7.out.cell 1
          have c2 := H7.out.cell 2
          simp at c0 c1 c2
          go_wp2_with fail
          refine (HRS.out _).mono ?_
          rintro e U4 ⟨rfl, rfl⟩
          have d0 := H10.out.cell 0
          have d1 := H10.out.cell 1
          have d2 := H10.out.cell 2
          simp at d0 d1 d2
          go_wp2_with fail
          refine (HNX.out _).mono ?_
          rintro e V5 ⟨rfl, hb⟩
          replace HF := Lib.hid (HF.out.below hb)
          replace H7 := Lib.hid (H7.out.below hb H7.out.lt)
          replace HBr := Lib.hid (HBr.out.trans (hb.mono HBr.out.size))
          clear hb c0 c1 c2 d0 d1 d2 H10 HRC HCC HNW HRS
          have H12 := Lib.hid ((Blk.new V5 41 (clkC 0 0 0)).alloc (.cells #[.int .u64 0, .int .i64 0, .int .u64 0] 27))
          have b5 := Blk.new (V5.alloc (.cells (clkC 0 0 0) 41)) 27 #[.int .u64 0, .int .i64 0, .int .u64 0]
          rw [World.size_alloc] at b5
          have H13 := Lib.hid (b5.row_other (k := V5.heap.size) (by omega) (clkC n0 n1 n2))
          clear b5
          go_upto_region 19 with (first
            | (refine L_kstore (.tmp 12) (.tmp 87) n0 n1 n2 rfl rfl H12.out ?_)
            | (refine L_istoreV (.tmp 13) (.tmp 88) i0 i1 i2 rfl rfl H13.out ?_))
          have hb : Below V5.heap.size V5 ((((V5.alloc (.cells (clkC 0 0 0) 41)).alloc (.cells #[.int .u64 0, .int .i64 0, .int .u64 0] 27)).setRow V5.heap.size (clkC n0 n1 n2)).setRow (V5.heap.size + 1) #[.int .u64 i0, .int .i64 i1, .int .u64 i2]) := below_setRowK (below_setRowK (((Below.refl _ _).alloc (Nat.le_refl _) _).alloc (by simp) _) (Nat.le_refl _) _) (by omega) _
          replace H12 := Lib.hid ((H12.out.row (clkC n0 n1 n2)).row_other (k := V5.heap.size + 1) (by omega) #[.int .u64 i0, .int .i64 i1, .int .u64 i2])
          replace H13 := Lib.hid (H13.out.row #[.int .u64 i0, .int .i64 i1, .int .u64 i2])
          replace HF := Lib.hid (HF.out.below hb)
          replace H7 := Lib.hid (H7.out.below hb H7.out.lt)
          replace HBr := Lib.hid (HBr.out.trans (hb.mono HBr.out.size))
          clear hb
          generalize (((V5.alloc (.cells (clkC 0 0 0) 41)).alloc (.cells #[.int .u64 0, .int .i64 0, .int .u64 0] 27)).setRow V5.heap.size (clkC n0 n1 n2)).setRow (V5.heap.size + 1) #[.int .u64 i0, .int .i64 i1, .int .u64 i2] = U5 at HF H7 HBr H12 H13 ⊢
          generalize V5.heap.size + 1 = p13 at H13 ⊢
          generalize V5.heap.size = p12 at H12 ⊢
          have c0 := H7.out.cell 0
          have c1 := H7.out.cell 1
          have c2 := H7.out.cell 2
          simp at c0 c1 c2
          go_wp2_with fail
          refine (HSE.out _ _ _ _ HF.out.times).mono ?_
          rintro e V6 ⟨rfl, hb⟩
          replace HF := Lib.hid (HF.out.below hb)
          replace H7 := Lib.hid (H7.out.below hb H7.out.lt)
          replace HBr := Lib.hid (HBr.out.trans (hb.mono HBr.out.size))
          replace H12 := Lib.hid (H12.out.below hb H12.out.lt)
          replace H13 := Lib.hid (H13.out.below hb H13.out.lt)
          clear hb c0 c1 c2 HNX HSE
          go_upto_region 20 with (refine L_kstore (.tmp 14) (.tmp 94) m0 m1 m2 rfl rfl (Blk.new _ _ _) ?_)
          have hb : Below V6.heap.size V6 ((V6.alloc (.cells (clkC 0 0 0) 41)).setRow V6.heap.size (clkC m0 m1 m2)) := below_setRowK ((Below.refl _ _).alloc (Nat.le_refl _) _) (Nat.le_refl _) _
          have H14 := Lib.hid ((Blk.new V6 41 (clkC 0 0 0)).row (clkC m0 m1 m2))
          replace HF := Lib.hid (HF.out.below hb)
          replace H7 := Lib.hid (H7.out.below hb H7.out.lt)
          replace HBr := Lib.hid (HBr.out.trans (hb.mono HBr.out.size))
          replace H12 := Lib.hid (H12.out.below hb H12.out.lt)
          replace H13 := Lib.hid (H13.out.below hb H13.out.lt)
          clear hb
          generalize (V6.alloc (.cells (clkC 0 0 0) 41)).setRow V6.heap.size (clkC m0 m1 m2) = U6 at HF H7 HBr H12 H13 H14 ⊢
          generalize V6.heap.size = p14 at H14 ⊢
          have N7 : Hid (p7 < U6.heap.size) := H7.out.lt
          have N14 : Hid (p12 < U6.heap.size ∧ p13 < U6.heap.size ∧ p14 < U6.heap.size) := ⟨H12.out.lt, H13.out.lt, H14.out.lt⟩
          have HF6 := HF
          have HBr6 := HBr
          have H76 := H7
          have H126 := H12
          have H136 := H13
          have H146 := H14
          go_upto_if 96 with fail
          have hb : Below U6.heap.size U6 (((U6.alloc (.cells (clkC 0 0 0) 41)).alloc (.cells (clkC 0 0 0) 41)).alloc (.cells #[.int .u64 0, .int .i64 0, .int .u64 0] 27)) := by go_grown
          have b16 := ((Blk.new U6 41 (clkC 0 0 0)).alloc (.cells (clkC 0 0 0) 41)).alloc (.cells #[.int .u64 0, .int .i64 0, .int .u64 0] 27)
          have b17 := (Blk.new (U6.alloc (.cells (clkC 0 0 0) 41)) 41 (clkC 0 0 0)).alloc (.cells #[.int .u64 0, .int .i64 0, .int .u64 0] 27)
          have b18 := Blk.new ((U6.alloc (.cells (clkC 0 0 0) 41)).alloc (.cells (clkC 0 0 0) 41)) 27 #[.int .u64 0, .int .i64 0, .int .u64 0]
          simp only [World.size_alloc] at b17 b18
          replace HF := Lib.hid (HF.out.below hb)
          replace H7 := Lib.hid (H7.out.below hb H7.out.lt)
          replace HBr := Lib.hid (HBr.out.trans (hb.mono HBr.out.size))
          have HBU := Lib.hid hb
          have H16 := Lib.hid b16
          have H17 := Lib.hid b17
          have H18 := Lib.hid b18
          clear b16 b17 b18 hb
          generalize ((U6.alloc (.cells (clkC 0 0 0) 41)).alloc (.cells (clkC 0 0 0) 41)).alloc (.cells #[.int .u64 0, .int .i64 0, .int .u64 0] 27) = U7 at HF H7 HBr HBU H16 H17 H18 ⊢
          clear H12 H13 H14 HBr
          go_cut [19, 20] (fun s19 s20 wx => s19 = .int .i64 e1 ∧ s20 = .int .i64 e2 ∧ Blk wx U6.heap.size 41 (clkC n0 n1 n2) ∧ Blk wx (U6.heap.size + 1) 41 (clkC m0 m1 m2) ∧ Blk wx (U6.heap.size + 1 + 1) 27 #[.int .u64 i0, .int .i64 i1, .int .u64 i2] ∧ Below U6.heap.size U6 wx)
          case first =>
            rcases HRN.out with ⟨rfl, hrn⟩ | ⟨rfl, ⟨rfl, rfl, rfl⟩, ⟨rfl, rfl, rfl⟩, hrn⟩
            · skip
              have c0 := H7.out.cell 0
              have c1 := H7.out.cell 1
              have c2 := H7.out.cell 2
              simp at c0 c1 c2
              go_wp2_with fail
              refine (hrn _).mono ?_
              rintro e W1 ⟨rfl, hb⟩
              replace HF := Lib.hid (HF.out.below hb)
              replace H7 := Lib.hid (H7.out.below hb H7.out.lt)
              replace H16 := Lib.hid (H16.out.below hb H16.out.lt)
              replace H17 := Lib.hid (H17.out.below hb H17.out.lt)
              replace H18 := Lib.hid (H18.out.below hb H18.out.lt)
              replace HBU := Lib.hid (HBU.out.trans (hb.mono HBU.out.size))
              clear hb c0 c1 c2
              have B21 := Lib.hid ((Blk.new W1 41 (clkC 0 0 0)).alloc (.cells #[.int .u64 0, .int .i64 0, .int .u64 0] 27))
              have b22 := Blk.new (W1.alloc (.cells (clkC 0 0 0) 41)) 27 #[.int .u64 0, .int .i64 0, .int .u64 0]
              rw [World.size_alloc] at b22
              have B22 := Lib.hid (b22.row_other (k := W1.heap.size) (by omega) (clkC (n0) (n1) (n2)))
              clear b22
              have N18 : Hid (U6.heap.size + 1 + 1 < W1.heap.size) := H18.out.lt
              go_upto_if 103 with (first
                | (refine L_kstore (.tmp 21) (.tmp 100) (n0) (n1) (n2) rfl rfl B21.out ?_)
                | (refine L_istoreV (.tmp 22) (.tmp 101) (i0) (i1) (i2) rfl rfl B22.out ?_))
              have hb : Below W1.heap.size W1 ((((W1.alloc (.cells (clkC 0 0 0) 41)).alloc (.cells #[.int .u64 0, .int .i64 0, .int .u64 0] 27)).setRow W1.heap.size (clkC (n0) (n1) (n2))).setRow (W1.heap.size + 1) #[.int .u64 (i0), .int .i64 (i1), .int .u64 (i2)]) := below_setRowK (below_setRowK (((Below.refl _ _).alloc (Nat.le_refl _) _).alloc (by simp) _) (Nat.le_refl _) _) (by omega) _
              replace B21 := Lib.hid ((B21.out.row (clkC (n0) (n1) (n2))).row_other (k := W1.heap.size + 1) (by omega) #[.int .u64 (i0), .int .i64 (i1), .int .u64 (i2)])
              replace B22 := Lib.hid (B22.out.row #[.int .u64 (i0), .int .i64 (i1), .int .u64 (i2)])
              replace HF := Lib.hid (HF.out.below hb)
              replace H7 := Lib.hid (H7.out.below hb H7.out.lt)
              replace H16 := Lib.hid (H16.out.below hb H16.out.lt)
              replace H17 := Lib.hid (H17.out.below hb H17.out.lt)
              replace H18 := Lib.hid (H18.out.below hb H18.out.lt)
              replace HBU := Lib.hid (HBU.out.trans (hb.mono HBU.out.size))
              clear hb
              generalize (((W1.alloc (.cells (clkC 0 0 0) 41)).alloc (.cells #[.int .u64 0, .int .i64 0, .int .u64 0] 27)).setRow W1.heap.size (clkC (n0) (n1) (n2))).setRow (W1.heap.size + 1) #[.int .u64 (i0), .int .i64 (i1), .int .u64 (i2)] = W2 at HF H7 HBU H16 H17 H18 B21 B22 ⊢
              have N22 : Hid (W1.heap.size < W1.heap.size + 1) := Nat.lt_succ_self _
              generalize W1.heap.size + 1 = p22 at B22 N22 ⊢
              generalize W1.heap.size = p21 at B21 N18 N22 ⊢
              go_upto_region 27 with fail
              have n18 := N18.out
              have n22 := N22.out
              obtain ⟨S, hS⟩ : ∃ S : World → Prop, S = fun Z => Blk Z p21 41 (clkC n0 n1 n2) ∧ Blk Z p22 27 #[.int .u64 i0, .int .i64 i1, .int .u64 i2] ∧ (∃ a b c, Blk Z U6.heap.size 41 #[a, b, c]) ∧ (∃ a b c, Blk Z (U6.heap.size + 1 + 1) 27 #[a, b, c]) ∧ Blk Z (U6.heap.size + 1) 41 (clkC 0 0 0) ∧ Below U6.heap.size U6 Z := ⟨_, rfl⟩
              have HS : Hid (∀ Z, S Z ↔ Blk Z p21 41 (clkC n0 n1 n2) ∧ Blk Z p22 27 #[.int .u64 i0, .int .i64 i1, .int .u64 i2] ∧ (∃ a b c, Blk Z U6.heap.size 41 #[a, b, c]) ∧ (∃ a b c, Blk Z (U6.heap.size + 1 + 1) 27 #[a, b, c]) ∧ Blk Z (U6.heap.size + 1) 41 (clkC 0 0 0) ∧ Below U6.heap.size U6 Z) := by intro Z; rw [hS]
              have hS0 : S W2.drew := (HS.out _).2 ⟨B21.out.drew, B22.out.drew, ⟨_, _, _, H16.out.drew⟩, ⟨_, _, _, H18.out.drew⟩, H17.out.drew, HBU.out.drew⟩
              clear hS HF H7 H16 H17 H18 HBU B21 B22
              refine Rely.wp_region 4 S (cxF U6.heap.size (U6.heap.size + 1 + 1) n0 n1 n2 i0 i1 i2) (cxR U6.heap.size) (by kernel_rfl) (by kernel_rfl) (by kernel_rfl) (by kernel_rfl) (by kernel_rfl) [2, 3] (by kernel_rfl) cx_no (cx_stab (by kernel_rfl)) hS0 ?_
              clear hS0
              simp only [List.take_succ_cons, List.take_zero, List.drop_succ_cons, List.drop_zero]
              refine Rely.relSeq_on rfl (fun K hK w1 hS1 hD1 => ?_)
              obtain ⟨k6, kr⟩ := (HS.out w1).1 hS1
              have c0 := k6.cell 0
              have c1 := k6.cell 1
              have c2 := k6.cell 2
              simp at c0 c1 c2
              go_simp
              refine ⟨⟨trivial, hS1, rfl⟩, hK _ ?_⟩
              clear hK hD1 hS1 K c0 c1 c2 k6 kr w1
              refine Rely.relSeq_on rfl (fun K hK w1 hS1 hD1 => ?_)
              obtain ⟨k6, k7, kr⟩ := (HS.out w1).1 hS1
              have c0 := k7.cell 0
              have c1 := k7.cell 1
              have c2 := k7.cell 2
              simp at c0 c1 c2
              go_simp
              refine ⟨⟨trivial, hS1, rfl⟩, hK _ ?_⟩
              clear hK hD1 hS1 K c0 c1 c2 k6 k7 kr w1
              refine Rely.relSeq_on rfl (fun K hK w1 hS1 hD1 => ?_)
              obtain ⟨k6, k7, ⟨a, b, c, k1⟩, ⟨a', b', c', k2⟩, k8, kb⟩ := (HS.out w1).1 hS1
              refine Rely.step_store 41 (.tmp 16) (.tmp 104) rfl _ _ rfl rfl (k1.store (cs' := clkC n0 n1 n2) (by kernel_rfl) rfl (by simp [Value.oneCell'])) ⟨k1.row _, (HS.out _).2 ⟨k6.row_other (by omega) _, k7.row_other (by omega) _, ⟨_, _, _, k1.row _⟩, ⟨_, _, _, k2.row_other (by omega) _⟩, k8.row_other (by omega) _, below_setRowK kb (by omega) _⟩, trivial⟩ (hK _ ?_)
              clear hK hD1 hS1 K k6 k7 k1 k2 k8 kb w1
              refine Rely.relSeq_on rfl (fun K hK w1 hS1 hD1 => ?_)
              obtain ⟨k6, k7, ⟨a, b, c, k1⟩, ⟨a', b', c', k2⟩, k8, kb⟩ := (HS.out w1).1 hS1
              refine Rely.step_store 27 (.tmp 18) (.tmp 105) rfl _ _ rfl rfl (k2.store (cs' := #[.int .u64 i0, .int .i64 i1, .int .u64 i2]) (by kernel_rfl) rfl (by simp [Value.oneCell'])) ⟨k2.row _, (HS.out _).2 ⟨k6.row_other (by omega) _, k7.row_other (by omega) _, ⟨_, _, _, k1.row_other (by omega) _⟩, ⟨_, _, _, k2.row _⟩, k8.row_other (by omega) _, below_setRowK kb (by omega) _⟩, fun T cs hk => hk.row_other (by omega) _⟩ (hK _ ?_)
              clear hK hD1 hS1 K k6 k7 k1 k2 k8 kb w1
              refine Rely.relSeq_nil ?_
              intro listed Z hSZ hFZ hlZ
              have H16 : Hid (Blk Z U6.heap.size 41 (clkC n0 n1 n2)) := hFZ.2 2 _ rfl rfl (hlZ 2 (by omega))
              have H18 : Hid (Blk Z (U6.heap.size + 1 + 1) 27 #[.int .u64 i0, .int .i64 i1, .int .u64 i2]) := hFZ.2 3 _ rfl rfl (hlZ 3 (by omega))
              have H17 := Lib.hid ((HS.out Z).1 hSZ).2.2.2.2.1
              have HBU := Lib.hid ((HS.out Z).1 hSZ).2.2.2.2.2
              have HF := Lib.hid (HF6.out.below HBU.out)
              have H7 := Lib.hid (H76.out.below HBU.out H76.out.lt)
              clear hSZ hFZ hlZ HS n18 n22
              rcases HRSE.out with ⟨rfl, hrs⟩ | ⟨rfl, ⟨rfl, rfl, rfl⟩, hrs⟩
              · skip
                have c0 := H7.out.cell 0
                have c1 := H7.out.cell 1
                have c2 := H7.out.cell 2
                simp at c0 c1 c2
                go_wp2_with fail
                refine (hrs _ _ _ _ HF.out.times).mono ?_
                rintro e W5 ⟨rfl, hb⟩
                replace HF := Lib.hid (HF.out.below hb)
                replace H7 := Lib.hid (H7.out.below hb H7.out.lt)
                replace H16 := Lib.hid (H16.out.below hb H16.out.lt)
                replace H17 := Lib.hid (H17.out.below hb H17.out.lt)
                replace H18 := Lib.hid (H18.out.below hb H18.out.lt)
                replace HBU := Lib.hid (HBU.out.trans (hb.mono HBU.out.size))
                clear hb c0 c1 c2
                have N24 : Hid (U6.heap.size + 1 + 1 < W5.heap.size) := H18.out.lt
                go_upto_if 112 with (refine L_kstore (.tmp 24) (.tmp 110) (m0) (m1) (m2) rfl rfl (Blk.new _ _ _) ?_)
                have hb : Below W5.heap.size W5 ((W5.alloc (.cells (clkC 0 0 0) 41)).setRow W5.heap.size (clkC (m0) (m1) (m2))) := below_setRowK ((Below.refl _ _).alloc (Nat.le_refl _) _) (Nat.le_refl _) _
                have B24 := Lib.hid ((Blk.new W5 41 (clkC 0 0 0)).row (clkC (m0) (m1) (m2)))
                replace HF := Lib.hid (HF.out.below hb)
                replace H7 := Lib.hid (H7.out.below hb H7.out.lt)
                replace H16 := Lib.hid (H16.out.below hb H16.out.lt)
                replace H17 := Lib.hid (H17.out.below hb H17.out.lt)
                replace H18 := Lib.hid (H18.out.below hb H18.out.lt)
                replace HBU := Lib.hid (HBU.out.trans (hb.mono HBU.out.size))
                clear hb
                generalize (W5.alloc (.cells (clkC 0 0 0) 41)).setRow W5.heap.size (clkC (m0) (m1) (m2)) = W6 at HF H7 HBU H16 H17 H18 B24 ⊢
                generalize W5.heap.size = p24 at B24 N24 ⊢
                have c0 := B24.out.cell 0
                have c1 := B24.out.cell 1
                have c2 := B24.out.cell 2
                simp at c0 c1 c2
                go_wp2_with (refine L_kstore (.tmp 17) (.tmp 113) m0 m1 m2 rfl rfl H17.out ?_)
                go_meet
                case rel => exact ⟨rfl, rfl, H16.out.row_other (by omega) _, H17.out.row _, H18.out.row_other (by omega) _, below_setRowK HBU.out (by omega) _⟩
              · skip
                have c0 := H7.out.cell 0
                have c1 := H7.out.cell 1
                have c2 := H7.out.cell 2
                simp at c0 c1 c2
                go_wp2_with fail
                refine (hrs _ _ _ _ HF.out.times).mono ?_
                rintro e W5 ⟨rfl, hb⟩
                replace HF := Lib.hid (HF.out.below hb)
                replace H7 := Lib.hid (H7.out.below hb H7.out.lt)
                replace H16 := Lib.hid (H16.out.below hb H16.out.lt)
                replace H17 := Lib.hid (H17.out.below hb H17.out.lt)
                replace H18 := Lib.hid (H18.out.below hb H18.out.lt)
                replace HBU := Lib.hid (HBU.out.trans (hb.mono HBU.out.size))
                clear hb c0 c1 c2
                have N24 : Hid (U6.heap.size + 1 + 1 < W5.heap.size) := H18.out.lt
                go_upto_if 112 with (refine L_kstore (.tmp 24) (.tmp 110) (0) (0) (0) rfl rfl (Blk.new _ _ _) ?_)
                have hb : Below W5.heap.size W5 ((W5.alloc (.cells (clkC 0 0 0) 41)).setRow W5.heap.size (clkC (0) (0) (0))) := below_setRowK ((Below.refl _ _).alloc (Nat.le_refl _) _) (Nat.le_refl _) _
                have B24 := Lib.hid ((Blk.new W5 41 (clkC 0 0 0)).row (clkC (0) (0) (0)))
                replace HF := Lib.hid (HF.out.below hb)
                replace H7 := Lib.hid (H7.out.below hb H7.out.lt)
                replace H16 := Lib.hid (H16.out.below hb H16.out.lt)
                replace H17 := Lib.hid (H17.out.below hb H17.out.lt)
                replace H18 := Lib.hid (H18.out.below hb H18.out.lt)
                replace HBU := Lib.hid (HBU.out.trans (hb.mono HBU.out.size))
                clear hb
                generalize (W5.alloc (.cells (clkC 0 0 0) 41)).setRow W5.heap.size (clkC (0) (0) (0)) = W6 at HF H7 HBU H16 H17 H18 B24 ⊢
                generalize W5.heap.size = p24 at B24 N24 ⊢
                go_wp2_with fail
                go_meet
                case rel => exact ⟨rfl, rfl, H16.out, H17.out, H18.out, HBU.out⟩
            · skip
              have c0 := H7.out.cell 0
              have c1 := H7.out.cell 1
              have c2 := H7.out.cell 2
              simp at c0 c1 c2
              go_wp2_with fail
              refine (hrn _).mono ?_
              rintro e W1 ⟨rfl, hb⟩
              replace HF := Lib.hid (HF.out.below hb)
              replace H7 := Lib.hid (H7.out.below hb H7.out.lt)
              replace H16 := Lib.hid (H16.out.below hb H16.out.lt)
              replace H17 := Lib.hid (H17.out.below hb H17.out.lt)
              replace H18 := Lib.hid (H18.out.below hb H18.out.lt)
              replace HBU := Lib.hid (HBU.out.trans (hb.mono HBU.out.size))
              clear hb c0 c1 c2
              have B21 := Lib.hid ((Blk.new W1 41 (clkC 0 0 0)).alloc (.cells #[.int .u64 0, .int .i64 0, .int .u64 0] 27))
              have b22 := Blk.new (W1.alloc (.cells (clkC 0 0 0) 41)) 27 #[.int .u64 0, .int .i64 0, .int .u64 0]
              rw [World.size_alloc] at b22
              have B22 := Lib.hid (b22.row_other (k := W1.heap.size) (by omega) (clkC (0) (0) (0)))
              clear b22
              have N18 : Hid (U6.heap.size + 1 + 1 < W1.heap.size) := H18.out.lt
              go_upto_if 103 with (first
                | (refine L_kstore (.tmp 21) (.tmp 100) (0) (0) (0) rfl rfl B21.out ?_)
                | (refine L_istoreV (.tmp 22) (.tmp 101) (0) (0) (0) rfl rfl B22.out ?_))
              have hb : Below W1.heap.size W1 ((((W1.alloc (.cells (clkC 0 0 0) 41)).alloc (.cells #[.int .u64 0, .int .i64 0, .int .u64 0] 27)).setRow W1.heap.size (clkC (0) (0) (0))).setRow (W1.heap.size + 1) #[.int .u64 (0), .int .i64 (0), .int .u64 (0)]) := below_setRowK (below_setRowK (((Below.refl _ _).alloc (Nat.le_refl _) _).alloc (by simp) _) (Nat.le_refl _) _) (by omega) _
              replace B21 := Lib.hid ((B21.out.row (clkC (0) (0) (0))).row_other (k := W1.heap.size + 1) (by omega) #[.int .u64 (0), .int .i64 (0), .int .u64 (0)])
              replace B22 := Lib.hid (B22.out.row #[.int .u64 (0), .int .i64 (0), .int .u64 (0)])
              replace HF := Lib.hid (HF.out.below hb)
              replace H7 := Lib.hid (H7.out.below hb H7.out.lt)
              replace H16 := Lib.hid (H16.out.below hb H16.out.lt)
              replace H17 := Lib.hid (H17.out.below hb H17.out.lt)
              replace H18 := Lib.hid (H18.out.below hb H18.out.lt)
              replace HBU := Lib.hid (HBU.out.trans (hb.mono HBU.out.size))
              clear hb
              generalize (((W1.alloc (.cells (clkC 0 0 0) 41)).alloc (.cells #[.int .u64 0, .int .i64 0, .int .u64 0] 27)).setRow W1.heap.size (clkC (0) (0) (0))).setRow (W1.heap.size + 1) #[.int .u64 (0), .int .i64 (0), .int .u64 (0)] = W2 at HF H7 HBU H16 H17 H18 B21 B22 ⊢
              have N22 : Hid (W1.heap.size < W1.heap.size + 1) := Nat.lt_succ_self _
              generalize W1.heap.size + 1 = p22 at B22 N22 ⊢
              generalize W1.heap.size = p21 at B21 N18 N22 ⊢
              rcases HRSE.out with ⟨rfl, hrs⟩ | ⟨rfl, ⟨rfl, rfl, rfl⟩, hrs⟩
              · skip
                have c0 := H7.out.cell 0
                have c1 := H7.out.cell 1
                have c2 := H7.out.cell 2
                simp at c0 c1 c2
                go_wp2_with fail
                refine (hrs _ _ _ _ HF.out.times).mono ?_
                rintro e W5 ⟨rfl, hb⟩
                replace HF := Lib.hid (HF.out.below hb)
                replace H7 := Lib.hid (H7.out.below hb H7.out.lt)
                replace H16 := Lib.hid (H16.out.below hb H16.out.lt)
                replace H17 := Lib.hid (H17.out.below hb H17.out.lt)
                replace H18 := Lib.hid (H18.out.below hb H18.out.lt)
                replace HBU := Lib.hid (HBU.out.trans (hb.mono HBU.out.size))
                clear hb c0 c1 c2
                have N24 : Hid (U6.heap.size + 1 + 1 < W5.heap.size) := H18.out.lt
                go_upto_if 112 with (refine L_kstore (.tmp 24) (.tmp 110) (m0) (m1) (m2) rfl rfl (Blk.new _ _ _) ?_)
                have hb : Below W5.heap.size W5 ((W5.alloc (.cells (clkC 0 0 0) 41)).setRow W5.heap.size (clkC (m0) (m1) (m2))) := below_setRowK ((Below.refl _ _).alloc (Nat.le_refl _) _) (Nat.le_refl _) _
                have B24 := Lib.hid ((Blk.new W5 41 (clkC 0 0 0)).row (clkC (m0) (m1) (m2)))
                replace HF := Lib.hid (HF.out.below hb)
                replace H7 := Lib.hid (H7.out.below hb H7.out.lt)
                replace H16 := Lib.hid (H16.out.below hb H16.out.lt)
                replace H17 := Lib.hid (H17.out.below hb H17.out.lt)
                replace H18 := Lib.hid (H18.out.below hb H18.out.lt)
                replace HBU := Lib.hid (HBU.out.trans (hb.mono HBU.out.size))
                clear hb
                generalize (W5.alloc (.cells (clkC 0 0 0) 41)).setRow W5.heap.size (clkC (m0) (m1) (m2)) = W6 at HF H7 HBU H16 H17 H18 B24 ⊢
                generalize W5.heap.size = p24 at B24 N24 ⊢
                have c0 := B24.out.cell 0
                have c1 := B24.out.cell 1
                have c2 := B24.out.cell 2
                simp at c0 c1 c2
                go_wp2_with (refine L_kstore (.tmp 17) (.tmp 113) m0 m1 m2 rfl rfl H17.out ?_)
                go_meet
                case rel => exact ⟨rfl, rfl, H16.out.row_other (by omega) _, H17.out.row _, H18.out.row_other (by omega) _, below_setRowK HBU.out (by omega) _⟩
              · skip
                have c0 := H7.out.cell 0
                have c1 := H7.out.cell 1
                have c2 := H7.out.cell 2
                simp at c0 c1 c2
                go_wp2_with fail
                refine (hrs _ _ _ _ HF.out.times).mono ?_
                rintro e W5 ⟨rfl, hb⟩
                replace HF := Lib.hid (HF.out.below hb)
                replace H7 := Lib.hid (H7.out.below hb H7.out.lt)
                replace H16 := Lib.hid (H16.out.below hb H16.out.lt)
                replace H17 := Lib.hid (H17.out.below hb H17.out.lt)
                replace H18 := Lib.hid (H18.out.below hb H18.out.lt)
                replace HBU := Lib.hid (HBU.out.trans (hb.mono HBU.out.size))
                clear hb c0 c1 c2
                have N24 : Hid (U6.heap.size + 1 + 1 < W5.heap.size) := H18.out.lt
                go_upto_if 112 with (refine L_kstore (.tmp 24) (.tmp 110) (0) (0) (0) rfl rfl (Blk.new _ _ _) ?_)
                have hb : Below W5.heap.size W5 ((W5.alloc (.cells (clkC 0 0 0) 41)).setRow W5.heap.size (clkC (0) (0) (0))) := below_setRowK ((Below.refl _ _).alloc (Nat.le_refl _) _) (Nat.le_refl _) _
                have B24 := Lib.hid ((Blk.new W5 41 (clkC 0 0 0)).row (clkC (0) (0) (0)))
                replace HF := Lib.hid (HF.out.below hb)
                replace H7 := Lib.hid (H7.out.below hb H7.out.lt)
                replace H16 := Lib.hid (H16.out.below hb H16.out.lt)
                replace H17 := Lib.hid (H17.out.below hb H17.out.lt)
                replace H18 := Lib.hid (H18.out.below hb H18.out.lt)
                replace HBU := Lib.hid (HBU.out.trans (hb.mono HBU.out.size))
                clear hb
                generalize (W5.alloc (.cells (clkC 0 0 0) 41)).setRow W5.heap.size (clkC (0) (0) (0)) = W6 at HF H7 HBU H16 H17 H18 B24 ⊢
                generalize W5.heap.size = p24 at B24 N24 ⊢
                go_wp2_with fail
                go_meet
                case rel => exact ⟨rfl, rfl, H16.out, H17.out, H18.out, HBU.out⟩
          case rest =>
            obtain ⟨rfl, rfl, h16, h17, h18, hbu⟩ := hcut
            replace H16 := Lib.hid h16
            replace H17 := Lib.hid h17
            replace H18 := Lib.hid h18
            have H12 := Lib.hid (H126.out.below hbu H126.out.lt)
            have H13 := Lib.hid (H136.out.below hbu H136.out.lt)
            have H14 := Lib.hid (H146.out.below hbu H146.out.lt)
            have HBr := Lib.hid (HBr6.out.trans (hbu.mono HBr6.out.size))
            clear h16 h17 h18 hbu H126 H136 H146 HBr6 HF6 HF H7 HBU
            have c0 := H12.out.cell 0
            have c1 := H12.out.cell 1
            have c2 := H12.out.cell 2
            have d0 := H13.out.cell 0
            have d1 := H13.out.cell 1
            have d2 := H13.out.cell 2
            have f0 := H14.out.cell 0
            have f1 := H14.out.cell 1
            have f2 := H14.out.cell 2
            have g0 := H16.out.cell 0
            have g1 := H16.out.cell 1
            have g2 := H16.out.cell 2
            have j0 := H17.out.cell 0
            have j1 := H17.out.cell 1
            have j2 := H17.out.cell 2
            have k0 := H18.out.cell 0
            have k1 := H18.out.cell 1
            have k2 := H18.out.cell 2
            simp at c0 c1 c2 d0 d1 d2 f0 f1 f2 g0 g1 g2 j0 j1 j2 k0 k1 k2
            have hlt := HK.out.1
            have hnb := HNB.out
            go_wp2_with fail
            go_roundw
            case rel => exact ⟨k + 1, by omega, by go_num, HBr.out⟩
            case measure => simp [intOf]; omega
    · replace HF := Lib.hid (HF.out.below HBr.out)
      have hkn : ¬ (k : Int) < (n : Int) := by omega
      have hm0 : (0 : Int) ≤ (m : Int) := by omega
      have hmc : (m : Int) ≤ (xc : Int) := by have := HMN.out.1; omega
      go_wp2_with fail
      have hxs : RowS encU 1 wr xa m ts := by
        have := HF.out.xrow.takeU m (by have := HMN.out.1; omega)
        rwa [← HMN.out.2] at this
      refine (EqualU ta xa m tc m xc ts ts _ HF.out.times hxs).mono ?_
      rintro e Y9 ⟨he, qq, hw⟩
      rw [allEqU_self] at he
      subst he
      have HBZ : Hid (Below w.heap.size w Y9) := by rw [hw]; exact HF.out.hb.trans (below_drewW _ _)
      clear hw hxs HF
      go_wp2_with fail
      go_ret
      exact ⟨rfl, HBZ.out⟩
theorem clocks_any (a : Option Addr) (n c : Nat) (L : List Clk) (xa : Option Addr) (xn xc : Nat) (xs : List Int) (w : World) (hS : RowS encK 3 w a n L) (_ : n ≤ c) (hin : ∀ x ∈ L, x.In) (hX : RowS encU 1 w xa xn xs) (hnc : xn ≤ xc) (_ : ∀ x ∈ xs, InU x) (htab : Tab w) :
    Calls Tryd.prog 5 #[.slice a n c, .slice xa xn xc] w (Ret (.bool true) w) := clocks_run a n c L xa xn xc xs _ _ w hS hX hnc hin rfl rfl htab
end Go.Proofs.YtoiaecfiinkmjaaDoor
