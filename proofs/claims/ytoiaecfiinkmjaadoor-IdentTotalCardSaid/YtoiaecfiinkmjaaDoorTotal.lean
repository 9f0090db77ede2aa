/- gessolaw11.IdentTotal returns true. -/
import Derived.Test.YtoiaecfiinkmjaaDoorWakes11
import Derived.Test.YtoiaecfiinkmjaaDoorTotLaw
import Derived.Test.YtoiaecfiinkmjaaDoorRowD
import Derived.Deep.DeepCutAuto
namespace Go.Proofs.YtoiaecfiinkmjaaDoor
open Go.RowKit Go.Shelf Go.Sort

theorem Sorted3 (a b c : Idn) (blk : Nat) (T : TypeId) (W : World) (h : Blk W blk T #[.int .u64 a.t, .int .i64 a.s, .int .u64 a.q, .int .u64 b.t, .int .i64 b.s, .int .u64 b.q, .int .u64 c.t, .int .i64 c.s, .int .u64 c.q]) :
    Calls Tryd.prog 30 #[.slice (some ⟨blk, 0, none⟩) 3 3] W (Cloned encId 3 3 (sortIds [a, b, c]) W) := Sorted_any _ 3 3 _ W (rowI_three h) (by simp)
theorem nest3 {α : Type} (x y : Idn) (X Y : α) : (if x.t = y.t then if x.s = y.s then if x.q = y.q then X else Y else Y else Y) = if eqId x y = true then X else Y := by
  by_cases h1 : x.t = y.t <;> by_cases h2 : x.s = y.s <;> by_cases h3 : x.q = y.q <;> simp [eqId, h1, h2, h3]
theorem nestF {α : Type} {x y : Idn} {X Y : α} (h : eqId x y = false) : (if x.t = y.t then if x.s = y.s then if x.q = y.q then X else Y else Y else Y) = Y := by
  rw [nest3, h, if_neg (by simp)]
theorem nestT {α : Type} {x y : Idn} {X Y : α} (h : eqId x y = true) : (if x.t = y.t then if x.s = y.s then if x.q = y.q then X else Y else Y else Y) = X := by
  rw [nest3, h, if_pos rfl]
/-- what is known of the three. -/
structure TF (w : World) (a b c : Idn) (q0 q1 q2 : Nat) (W : World) : Prop where
  i0 : Blk W q0 27 #[.int .u64 a.t, .int .i64 a.s, .int .u64 a.q]
  i1 : Blk W q1 27 #[.int .u64 b.t, .int .i64 b.s, .int .u64 b.q]
  i2 : Blk W q2 27 #[.int .u64 c.t, .int .i64 c.s, .int .u64 c.q]
  hb : Below w.heap.size w W
theorem TF.below {w W W' : World} {a b c : Idn} {q0 q1 q2 : Nat} (h : TF w a b c q0 q1 q2 W) (hb : Below W.heap.size W W') : TF w a b c q0 q1 q2 W' :=
  ⟨h.i0.below hb h.i0.lt, h.i1.below hb h.i1.lt, h.i2.below hb h.i2.lt, h.hb.trans (hb.mono h.hb.size)⟩

set_option maxRecDepth 100000 in
set_option maxHeartbeats 8000000 in
theorem total_any (a b c : Idn) (w : World) (htab : Tab w) :
    Calls Tryd.prog 8 #[a.val, b.val, c.val] w (Ret (.bool true) w) := by
  have k0 := ((Blk.new w 27 #[.int .u64 a.t, .int .i64 a.s, .int .u64 a.q]).alloc (.cells #[.int .u64 b.t, .int .i64 b.s, .int .u64 b.q] 27)).alloc (.cells #[.int .u64 c.t, .int .i64 c.s, .int .u64 c.q] 27)
  have k1 := (Blk.new (w.alloc (.cells #[.int .u64 a.t, .int .i64 a.s, .int .u64 a.q] 27)) 27 #[.int .u64 b.t, .int .i64 b.s, .int .u64 b.q]).alloc (.cells #[.int .u64 c.t, .int .i64 c.s, .int .u64 c.q] 27)
  have k2 := Blk.new ((w.alloc (.cells #[.int .u64 a.t, .int .i64 a.s, .int .u64 a.q] 27)).alloc (.cells #[.int .u64 b.t, .int .i64 b.s, .int .u64 b.q] 27)) 27 #[.int .u64 c.t, .int .i64 c.s, .int .u64 c.q]
  simp only [World.size_alloc] at k1 k2
  have HF : Hid (TF w a b c w.heap.size (w.heap.size + 1) (w.heap.size + 1 + 1) (((w.alloc (.cells #[.int .u64 a.t, .int .i64 a.s, .int .u64 a.q] 27)).alloc (.cells #[.int .u64 b.t, .int .i64 b.s, .int .u64 b.q] 27)).alloc (.cells #[.int .u64 c.t, .int .i64 c.s, .int .u64 c.q] 27))) := ⟨k0, k1, k2, by go_grown⟩
  have HT := Lib.hid htab
  clear k0 k1 k2 htab
  go_enter Tryd.func8, Tryd.ntmps8
  go_wp2_with fail
  refine (wakes_any _ (tab_below HT.out HF.out.hb)).mono ?_
  rintro e W ⟨rfl, hb⟩
  replace HF := Lib.hid (HF.out.below hb)
  clear hb HT
  generalize w.heap.size + 1 + 1 = q2 at HF ⊢
  generalize w.heap.size + 1 = q1 at HF ⊢
  generalize w.heap.size = q0 at HF ⊢
  go_upto_region 3 with fail
  go_cut [27] (fun s27 wx => s27 = .bool false ∧ TF w a b c q0 q1 q2 wx)
  case first =>
    obtain ⟨S, hS⟩ : ∃ S : World → Prop, S = fun X => TF w a b c q0 q1 q2 X := ⟨_, rfl⟩
    have H0 : Hid (∀ X, S X → Blk X q0 27 #[.int .u64 a.t, .int .i64 a.s, .int .u64 a.q]) := fun X hX => by rw [hS] at hX; exact hX.i0
    have H1 : Hid (∀ X, S X → Blk X q1 27 #[.int .u64 b.t, .int .i64 b.s, .int .u64 b.q]) := fun X hX => by rw [hS] at hX; exact hX.i1
    have HSF : Hid (∀ X, S X → TF w a b c q0 q1 q2 X) := fun X hX => by rw [hS] at hX; exact hX
    have HSn : Hid (∀ X X', S X → Below X.heap.size X X' → S X') := by intro X X' h hb; rw [hS] at h ⊢; exact h.below hb
    have hS0 : S W.drew := by rw [hS]; exact HF.out.below (Below.refl _ _).drew
    clear hS HF
    have hC1 := fun W => Compare_any a b W
    have hC2 := fun W => Compare_any b a W
    rcases cmp_cases a b with ⟨e1, e2, e3⟩ | ⟨e1, e2, e3⟩ | ⟨e1, e2, e3⟩
    · rw [e1] at hC1
      rw [e2] at hC2
      have HC1 := Lib.hid hC1
      have HC2 := Lib.hid hC2
      have HE := Lib.hid e3
      clear hC1 hC2 e1 e2 e3
      refine wp_region_held_rel 17 S (fun k u X => match k with
        | 2 => u = .int .i64 (-1)
        | 5 => u = .int .i64 (1)
        | 11 => u = .int .i64 (-1)
        | _ => True) rfl (by kernel_rfl) (by kernel_rfl) (by kernel_rfl) (by
          intro k u X X' hb hF
          revert hF
          split <;> intro hF <;> exact hF) hS0 ?_
      clear hS0
      simp only [List.take_succ_cons, List.take_zero, List.drop_succ_cons, List.drop_zero]
      refine relSeq_on rfl (fun K hK w1 hS1 hD1 => ?_)
      have c0 := (H0.out w1 hS1).cell 0
      have c1 := (H0.out w1 hS1).cell 1
      have c2 := (H0.out w1 hS1).cell 2
      simp at c0 c1 c2
      go_simp
      refine ⟨⟨trivial, hS1, Below.refl _ _⟩, hK _ ?_⟩
      clear hK hD1 c0 c1 c2 hS1 K w1
      refine relSeq_on rfl (fun K hK w1 hS1 hD1 => ?_)
      have c0 := (H1.out w1 hS1).cell 0
      have c1 := (H1.out w1 hS1).cell 1
      have c2 := (H1.out w1 hS1).cell 2
      simp at c0 c1 c2
      go_simp
      refine ⟨⟨trivial, hS1, Below.refl _ _⟩, hK _ ?_⟩
      clear hK hD1 c0 c1 c2 hS1 K w1
      refine relSeq_on rfl (fun K hK w1 hS1 hD1 => ?_)
      go_simp
      refine ⟨(HC1.out w1).mono fun e w2 he => ⟨_, he.1, rfl, HSn.out _ _ hS1 he.2, he.2⟩, fun v hv => ?_⟩
      obtain ⟨_, _, hv⟩ := hv.out
      obtain rfl : v = .int .i64 (-1) := hv
      refine hK _ ?_
      clear hK hD1 hS1 K w1 hv
      refine relSeq_on rfl (fun K hK w1 hS1 hD1 => ?_)
      have c0 := (H1.out w1 hS1).cell 0
      have c1 := (H1.out w1 hS1).cell 1
      have c2 := (H1.out w1 hS1).cell 2
      simp at c0 c1 c2
      go_simp
      refine ⟨⟨trivial, hS1, Below.refl _ _⟩, hK _ ?_⟩
      clear hK hD1 c0 c1 c2 hS1 K w1
      refine relSeq_on rfl (fun K hK w1 hS1 hD1 => ?_)
      have c0 := (H0.out w1 hS1).cell 0
      have c1 := (H0.out w1 hS1).cell 1
      have c2 := (H0.out w1 hS1).cell 2
      simp at c0 c1 c2
      go_simp
      refine ⟨⟨trivial, hS1, Below.refl _ _⟩, hK _ ?_⟩
      clear hK hD1 c0 c1 c2 hS1 K w1
      refine relSeq_on rfl (fun K hK w1 hS1 hD1 => ?_)
      go_simp
      refine ⟨(HC2.out w1).mono fun e w2 he => ⟨_, he.1, rfl, HSn.out _ _ hS1 he.2, he.2⟩, fun v hv => ?_⟩
      obtain ⟨_, _, hv⟩ := hv.out
      obtain rfl : v = .int .i64 (1) := hv
      refine hK _ ?_
      clear hK hD1 hS1 K w1 hv
      refine relSeq_on rfl (fun K hK w1 hS1 hD1 => ?_)
      go_simp
      refine ⟨⟨trivial, hS1, Below.refl _ _⟩, hK _ ?_⟩
      clear hK hD1 hS1 K w1
      refine relSeq_on rfl (fun K hK w1 hS1 hD1 => ?_)
      go_simp
      refine ⟨⟨trivial, hS1, Below.refl _ _⟩, hK _ ?_⟩
      clear hK hD1 hS1 K w1
      refine relSeq_on rfl (fun K hK w1 hS1 hD1 => ?_)
      go_simp
      refine ⟨⟨trivial, hS1, Below.refl _ _⟩, hK _ ?_⟩
      clear hK hD1 hS1 K w1
      refine relSeq_on rfl (fun K hK w1 hS1 hD1 => ?_)
      have c0 := (H0.out w1 hS1).cell 0
      have c1 := (H0.out w1 hS1).cell 1
      have c2 := (H0.out w1 hS1).cell 2
      simp at c0 c1 c2
      go_simp
      refine ⟨⟨trivial, hS1, Below.refl _ _⟩, hK _ ?_⟩
      clear hK hD1 c0 c1 c2 hS1 K w1
      refine relSeq_on rfl (fun K hK w1 hS1 hD1 => ?_)
      have c0 := (H1.out w1 hS1).cell 0
      have c1 := (H1.out w1 hS1).cell 1
      have c2 := (H1.out w1 hS1).cell 2
      simp at c0 c1 c2
      go_simp
      refine ⟨⟨trivial, hS1, Below.refl _ _⟩, hK _ ?_⟩
      clear hK hD1 c0 c1 c2 hS1 K w1
      refine relSeq_on rfl (fun K hK w1 hS1 hD1 => ?_)
      go_simp
      refine ⟨(HC1.out w1).mono fun e w2 he => ⟨_, he.1, rfl, HSn.out _ _ hS1 he.2, he.2⟩, fun v hv => ?_⟩
      obtain ⟨_, _, hv⟩ := hv.out
      obtain rfl : v = .int .i64 (-1) := hv
      refine hK _ ?_
      clear hK hD1 hS1 K w1 hv
      refine relSeq_on rfl (fun K hK w1 hS1 hD1 => ?_)
      go_simp
      refine ⟨⟨trivial, hS1, Below.refl _ _⟩, hK _ ?_⟩
      clear hK hD1 hS1 K w1
      refine relSeq_on rfl (fun K hK w1 hS1 hD1 => ?_)
      have c0 := (H0.out w1 hS1).cell 0
      have c1 := (H0.out w1 hS1).cell 1
      have c2 := (H0.out w1 hS1).cell 2
      simp at c0 c1 c2
      go_simp
      refine ⟨⟨trivial, hS1, Below.refl _ _⟩, hK _ ?_⟩
      clear hK hD1 c0 c1 c2 hS1 K w1
      refine relSeq_on rfl (fun K hK w1 hS1 hD1 => ?_)
      have c0 := (H1.out w1 hS1).cell 0
      have c1 := (H1.out w1 hS1).cell 1
      have c2 := (H1.out w1 hS1).cell 2
      simp at c0 c1 c2
      go_simp
      refine ⟨⟨trivial, hS1, Below.refl _ _⟩, hK _ ?_⟩
      clear hK hD1 c0 c1 c2 hS1 K w1
      refine relSeq_on rfl (fun K hK w1 hS1 hD1 => ?_)
      go_simp
      simp only [nestF HE.out]
      refine ⟨⟨trivial, hS1, Below.refl _ _⟩, hK _ ?_⟩
      clear hK hD1 hS1 K w1
      refine relSeq_on rfl (fun K hK w1 hS1 hD1 => ?_)
      go_simp
      refine ⟨⟨trivial, hS1, Below.refl _ _⟩, hK _ ?_⟩
      clear hK hD1 hS1 K w1
      refine relSeq_nil ?_
      intro listed w9 hS2 hF2 hl2
      have HF := Lib.hid (HSF.out w9 hS2)
      clear hF2 hl2 HSn H0 H1 hS2 HSF
      go_wp2_with fail
      go_meet
      case rel => exact ⟨rfl, HF.out⟩
    · rw [e1] at hC1
      rw [e2] at hC2
      have HC1 := Lib.hid hC1
      have HC2 := Lib.hid hC2
      have HE := Lib.hid e3
      clear hC1 hC2 e1 e2 e3
      refine wp_region_held_rel 17 S (fun k u X => match k with
        | 2 => u = .int .i64 (0)
        | 5 => u = .int .i64 (0)
        | 11 => u = .int .i64 (0)
        | _ => True) rfl (by kernel_rfl) (by kernel_rfl) (by kernel_rfl) (by
          intro k u X X' hb hF
          revert hF
          split <;> intro hF <;> exact hF) hS0 ?_
      clear hS0
      simp only [List.take_succ_cons, List.take_zero, List.drop_succ_cons, List.drop_zero]
      refine relSeq_on rfl (fun K hK w1 hS1 hD1 => ?_)
      have c0 := (H0.out w1 hS1).cell 0
      have c1 := (H0.out w1 hS1).cell 1
      have c2 := (H0.out w1 hS1).cell 2
      simp at c0 c1 c2
      go_simp
      refine ⟨⟨trivial, hS1, Below.refl _ _⟩, hK _ ?_⟩
      clear hK hD1 c0 c1 c2 hS1 K w1
      refine relSeq_on rfl (fun K hK w1 hS1 hD1 => ?_)
      have c0 := (H1.out w1 hS1).cell 0
      have c1 := (H1.out w1 hS1).cell 1
      have c2 := (H1.out w1 hS1).cell 2
      simp at c0 c1 c2
      go_simp
      refine ⟨⟨trivial, hS1, Below.refl _ _⟩, hK _ ?_⟩
      clear hK hD1 c0 c1 c2 hS1 K w1
      refine relSeq_on rfl (fun K hK w1 hS1 hD1 => ?_)
      go_simp
      refine ⟨(HC1.out w1).mono fun e w2 he => ⟨_, he.1, rfl, HSn.out _ _ hS1 he.2, he.2⟩, fun v hv => ?_⟩
      obtain ⟨_, _, hv⟩ := hv.out
      obtain rfl : v = .int .i64 (0) := hv
      refine hK _ ?_
      clear hK hD1 hS1 K w1 hv
      refine relSeq_on rfl (fun K hK w1 hS1 hD1 => ?_)
      have c0 := (H1.out w1 hS1).cell 0
      have c1 := (H1.out w1 hS1).cell 1
      have c2 := (H1.out w1 hS1).cell 2
      simp at c0 c1 c2
      go_simp
      refine ⟨⟨trivial, hS1, Below.refl _ _⟩, hK _ ?_⟩
      clear hK hD1 c0 c1 c2 hS1 K w1
      refine relSeq_on rfl (fun K hK w1 hS1 hD1 => ?_)
      have c0 := (H0.out w1 hS1).cell 0
      have c1 := (H0.out w1 hS1).cell 1
      have c2 := (H0.out w1 hS1).cell 2
      simp at c0 c1 c2
      go_simp
      refine ⟨⟨trivial, hS1, Below.refl _ _⟩, hK _ ?_⟩
      clear hK hD1 c0 c1 c2 hS1 K w1
      refine relSeq_on rfl (fun K hK w1 hS1 hD1 => ?_)
      go_simp
      refine ⟨(HC2.out w1).mono fun e w2 he => ⟨_, he.1, rfl, HSn.out _ _ hS1 he.2, he.2⟩, fun v hv => ?_⟩
      obtain ⟨_, _, hv⟩ := hv.out
      obtain rfl : v = .int .i64 (0) := hv
      refine hK _ ?_
      clear hK hD1 hS1 K w1 hv
      refine relSeq_on rfl (fun K hK w1 hS1 hD1 => ?_)
      go_simp
      refine ⟨⟨trivial, hS1, Below.refl _ _⟩, hK _ ?_⟩
      clear hK hD1 hS1 K w1
      refine relSeq_on rfl (fun K hK w1 hS1 hD1 => ?_)
      go_simp
      refine ⟨⟨trivial, hS1, Below.refl _ _⟩, hK _ ?_⟩
      clear hK hD1 hS1 K w1
      refine relSeq_on rfl (fun K hK w1 hS1 hD1 => ?_)
      go_simp
      refine ⟨⟨trivial, hS1, Below.refl _ _⟩, hK _ ?_⟩
      clear hK hD1 hS1 K w1
      refine relSeq_on rfl (fun K hK w1 hS1 hD1 => ?_)
      have c0 := (H0.out w1 hS1).cell 0
      have c1 := (H0.out w1 hS1).cell 1
      have c2 := (H0.out w1 hS1).cell 2
      simp at c0 c1 c2
      go_simp
      refine ⟨⟨trivial, hS1, Below.refl _ _⟩, hK _ ?_⟩
      clear hK hD1 c0 c1 c2 hS1 K w1
      refine relSeq_on rfl (fun K hK w1 hS1 hD1 => ?_)
      have c0 := (H1.out w1 hS1).cell 0
      have c1 := (H1.out w1 hS1).cell 1
      have c2 := (H1.out w1 hS1).cell 2
      simp at c0 c1 c2
      go_simp
      refine ⟨⟨trivial, hS1, Below.refl _ _⟩, hK _ ?_⟩
      clear hK hD1 c0 c1 c2 hS1 K w1
      refine relSeq_on rfl (fun K hK w1 hS1 hD1 => ?_)
      go_simp
      refine ⟨(HC1.out w1).mono fun e w2 he => ⟨_, he.1, rfl, HSn.out _ _ hS1 he.2, he.2⟩, fun v hv => ?_⟩
      obtain ⟨_, _, hv⟩ := hv.out
      obtain rfl : v = .int .i64 (0) := hv
      refine hK _ ?_
      clear hK hD1 hS1 K w1 hv
      refine relSeq_on rfl (fun K hK w1 hS1 hD1 => ?_)
      go_simp
      refine ⟨⟨trivial, hS1, Below.refl _ _⟩, hK _ ?_⟩
      clear hK hD1 hS1 K w1
      refine relSeq_on rfl (fun K hK w1 hS1 hD1 => ?_)
      have c0 := (H0.out w1 hS1).cell 0
      have c1 := (H0.out w1 hS1).cell 1
      have c2 := (H0.out w1 hS1).cell 2
      simp at c0 c1 c2
      go_simp
      refine ⟨⟨trivial, hS1, Below.refl _ _⟩, hK _ ?_⟩
      clear hK hD1 c0 c1 c2 hS1 K w1
      refine relSeq_on rfl (fun K hK w1 hS1 hD1 => ?_)
      have c0 := (H1.out w1 hS1).cell 0
      have c1 := (H1.out w1 hS1).cell 1
      have c2 := (H1.out w1 hS1).cell 2
      simp at c0 c1 c2
      go_simp
      refine ⟨⟨trivial, hS1, Below.refl _ _⟩, hK _ ?_⟩
      clear hK hD1 c0 c1 c2 hS1 K w1
      refine relSeq_on rfl (fun K hK w1 hS1 hD1 => ?_)
      go_simp
      simp only [nestT HE.out]
      refine ⟨⟨trivial, hS1, Below.refl _ _⟩, hK _ ?_⟩
      clear hK hD1 hS1 K w1
      refine relSeq_on rfl (fun K hK w1 hS1 hD1 => ?_)
      go_simp
      refine ⟨⟨trivial, hS1, Below.refl _ _⟩, hK _ ?_⟩
      clear hK hD1 hS1 K w1
      refine relSeq_nil ?_
      intro listed w9 hS2 hF2 hl2
      have HF := Lib.hid (HSF.out w9 hS2)
      clear hF2 hl2 HSn H0 H1 hS2 HSF
      go_wp2_with fail
      go_meet
      case rel => exact ⟨rfl, HF.out⟩
    · rw [e1] at hC1
      rw [e2] at hC2
      have HC1 := Lib.hid hC1
      have HC2 := Lib.hid hC2
      have HE := Lib.hid e3
      clear hC1 hC2 e1 e2 e3
      refine wp_region_held_rel 17 S (fun k u X => match k with
        | 2 => u = .int .i64 (1)
        | 5 => u = .int .i64 (-1)
        | 11 => u = .int .i64 (1)
        | _ => True) rfl (by kernel_rfl) (by kernel_rfl) (by kernel_rfl) (by
          intro k u X X' hb hF
          revert hF
          split <;> intro hF <;> exact hF) hS0 ?_
      clear hS0
      simp only [List.take_succ_cons, List.take_zero, List.drop_succ_cons, List.drop_zero]
      refine relSeq_on rfl (fun K hK w1 hS1 hD1 => ?_)
      have c0 := (H0.out w1 hS1).cell 0
      have c1 := (H0.out w1 hS1).cell 1
      have c2 := (H0.out w1 hS1).cell 2
      simp at c0 c1 c2
      go_simp
      refine ⟨⟨trivial, hS1, Below.refl _ _⟩, hK _ ?_⟩
      clear hK hD1 c0 c1 c2 hS1 K w1
      refine relSeq_on rfl (fun K hK w1 hS1 hD1 => ?_)
      have c0 := (H1.out w1 hS1).cell 0
      have c1 := (H1.out w1 hS1).cell 1
      have c2 := (H1.out w1 hS1).cell 2
      simp at c0 c1 c2
      go_simp
      refine ⟨⟨trivial, hS1, Below.refl _ _⟩, hK _ ?_⟩
      clear hK hD1 c0 c1 c2 hS1 K w1
      refine relSeq_on rfl (fun K hK w1 hS1 hD1 => ?_)
      go_simp
      refine ⟨(HC1.out w1).mono fun e w2 he => ⟨_, he.1, rfl, HSn.out _ _ hS1 he.2, he.2⟩, fun v hv => ?_⟩
      obtain ⟨_, _, hv⟩ := hv.out
      obtain rfl : v = .int .i64 (1) := hv
      refine hK _ ?_
      clear hK hD1 hS1 K w1 hv
      refine relSeq_on rfl (fun K hK w1 hS1 hD1 => ?_)
      have c0 := (H1.out w1 hS1).cell 0
      have c1 := (H1.out w1 hS1).cell 1
      have c2 := (H1.out w1 hS1).cell 2
      simp at c0 c1 c2
      go_simp
      refine ⟨⟨trivial, hS1, Below.refl _ _⟩, hK _ ?_⟩
      clear hK hD1 c0 c1 c2 hS1 K w1
      refine relSeq_on rfl (fun K hK w1 hS1 hD1 => ?_)
      have c0 := (H0.out w1 hS1).cell 0
      have c1 := (H0.out w1 hS1).cell 1
      have c2 := (H0.out w1 hS1).cell 2
      simp at c0 c1 c2
      go_simp
      refine ⟨⟨trivial, hS1, Below.refl _ _⟩, hK _ ?_⟩
      clear hK hD1 c0 c1 c2 hS1 K w1
      refine relSeq_on rfl (fun K hK w1 hS1 hD1 => ?_)
      go_simp
      refine ⟨(HC2.out w1).mono fun e w2 he => ⟨_, he.1, rfl, HSn.out _ _ hS1 he.2, he.2⟩, fun v hv => ?_⟩
      obtain ⟨_, _, hv⟩ := hv.out
      obtain rfl : v = .int .i64 (-1) := hv
      refine hK _ ?_
      clear hK hD1 hS1 K w1 hv
      refine relSeq_on rfl (fun K hK w1 hS1 hD1 => ?_)
      go_simp
      refine ⟨⟨trivial, hS1, Below.refl _ _⟩, hK _ ?_⟩
      clear hK hD1 hS1 K w1
      refine relSeq_on rfl (fun K hK w1 hS1 hD1 => ?_)
      go_simp
      refine ⟨⟨trivial, hS1, Below.refl _ _⟩, hK _ ?_⟩
      clear hK hD1 hS1 K w1
      refine relSeq_on rfl (fun K hK w1 hS1 hD1 => ?_)
      go_simp
      refine ⟨⟨trivial, hS1, Below.refl _ _⟩, hK _ ?_⟩
      clear hK hD1 hS1 K w1
      refine relSeq_on rfl (fun K hK w1 hS1 hD1 => ?_)
      have c0 := (H0.out w1 hS1).cell 0
      have c1 := (H0.out w1 hS1).cell 1
      have c2 := (H0.out w1 hS1).cell 2
      simp at c0 c1 c2
      go_simp
      refine ⟨⟨trivial, hS1, Below.refl _ _⟩, hK _ ?_⟩
      clear hK hD1 c0 c1 c2 hS1 K w1
      refine relSeq_on rfl (fun K hK w1 hS1 hD1 => ?_)
      have c0 := (H1.out w1 hS1).cell 0
      have c1 := (H1.out w1 hS1).cell 1
      have c2 := (H1.out w1 hS1).cell 2
      simp at c0 c1 c2
      go_simp
      refine ⟨⟨trivial, hS1, Below.refl _ _⟩, hK _ ?_⟩
      clear hK hD1 c0 c1 c2 hS1 K w1
      refine relSeq_on rfl (fun K hK w1 hS1 hD1 => ?_)
      go_simp
      refine ⟨(HC1.out w1).mono fun e w2 he => ⟨_, he.1, rfl, HSn.out _ _ hS1 he.2, he.2⟩, fun v hv => ?_⟩
      obtain ⟨_, _, hv⟩ := hv.out
      obtain rfl : v = .int .i64 (1) := hv
      refine hK _ ?_
      clear hK hD1 hS1 K w1 hv
      refine relSeq_on rfl (fun K hK w1 hS1 hD1 => ?_)
      go_simp
      refine ⟨⟨trivial, hS1, Below.refl _ _⟩, hK _ ?_⟩
      clear hK hD1 hS1 K w1
      refine relSeq_on rfl (fun K hK w1 hS1 hD1 => ?_)
      have c0 := (H0.out w1 hS1).cell 0
      have c1 := (H0.out w1 hS1).cell 1
      have c2 := (H0.out w1 hS1).cell 2
      simp at c0 c1 c2
      go_simp
      refine ⟨⟨trivial, hS1, Below.refl _ _⟩, hK _ ?_⟩
      clear hK hD1 c0 c1 c2 hS1 K w1
      refine relSeq_on rfl (fun K hK w1 hS1 hD1 => ?_)
      have c0 := (H1.out w1 hS1).cell 0
      have c1 := (H1.out w1 hS1).cell 1
      have c2 := (H1.out w1 hS1).cell 2
      simp at c0 c1 c2
      go_simp
      refine ⟨⟨trivial, hS1, Below.refl _ _⟩, hK _ ?_⟩
      clear hK hD1 c0 c1 c2 hS1 K w1
      refine relSeq_on rfl (fun K hK w1 hS1 hD1 => ?_)
      go_simp
      simp only [nestF HE.out]
      refine ⟨⟨trivial, hS1, Below.refl _ _⟩, hK _ ?_⟩
      clear hK hD1 hS1 K w1
      refine relSeq_on rfl (fun K hK w1 hS1 hD1 => ?_)
      go_simp
      refine ⟨⟨trivial, hS1, Below.refl _ _⟩, hK _ ?_⟩
      clear hK hD1 hS1 K w1
      refine relSeq_nil ?_
      intro listed w9 hS2 hF2 hl2
      have HF := Lib.hid (HSF.out w9 hS2)
      clear hF2 hl2 HSn H0 H1 hS2 HSF
      go_wp2_with fail
      go_meet
      case rel => exact ⟨rfl, HF.out⟩
  case rest =>
    obtain ⟨rfl, hF⟩ := hcut
    replace HF := Lib.hid hF
    clear hF
    go_upto_region 5 with fail
    go_cut [41] (fun s41 wx => s41 = .bool false ∧ TF w a b c q0 q1 q2 wx)
    case first =>
      have hC1 := fun W => Less_any a b W
      have hC2 := fun W => Less_any b c W
      have hC3 := fun W => Less_any a c W
      cases hab : lessId a b with
      | false =>
        rw [hab] at hC1
        have HC1 := Lib.hid hC1
        clear hC1 hC2 hC3 hab
        have c0 := HF.out.i0.cell 0
        have c1 := HF.out.i0.cell 1
        have c2 := HF.out.i0.cell 2
        have d0 := HF.out.i1.cell 0
        have d1 := HF.out.i1.cell 1
        have d2 := HF.out.i1.cell 2
        have g0 := HF.out.i2.cell 0
        have g1 := HF.out.i2.cell 1
        have g2 := HF.out.i2.cell 2
        simp at c0 c1 c2 d0 d1 d2 g0 g1 g2
        go_wp2_with fail
        refine (HC1.out _).mono ?_
        rintro e W5 ⟨rfl, hb⟩
        replace HF := Lib.hid (HF.out.below hb)
        clear hb
        clear c0 c1 c2 d0 d1 d2 g0 g1 g2
        go_wp2_with fail
        go_meet
        case rel => exact ⟨rfl, HF.out⟩
      | true =>
        rw [hab] at hC1
        have HC1 := Lib.hid hC1
        clear hC1
        have c0 := HF.out.i0.cell 0
        have c1 := HF.out.i0.cell 1
        have c2 := HF.out.i0.cell 2
        have d0 := HF.out.i1.cell 0
        have d1 := HF.out.i1.cell 1
        have d2 := HF.out.i1.cell 2
        have g0 := HF.out.i2.cell 0
        have g1 := HF.out.i2.cell 1
        have g2 := HF.out.i2.cell 2
        simp at c0 c1 c2 d0 d1 d2 g0 g1 g2
        go_wp2_with fail
        refine (HC1.out _).mono ?_
        rintro e W5 ⟨rfl, hb⟩
        replace HF := Lib.hid (HF.out.below hb)
        clear hb
        clear c0 c1 c2 d0 d1 d2 g0 g1 g2
        cases hbc : lessId b c with
        | false =>
          rw [hbc] at hC2
          have HC2 := Lib.hid hC2
          clear hC2 hC3 hab hbc
          have c0 := HF.out.i0.cell 0
          have c1 := HF.out.i0.cell 1
          have c2 := HF.out.i0.cell 2
          have d0 := HF.out.i1.cell 0
          have d1 := HF.out.i1.cell 1
          have d2 := HF.out.i1.cell 2
          have g0 := HF.out.i2.cell 0
          have g1 := HF.out.i2.cell 1
          have g2 := HF.out.i2.cell 2
          simp at c0 c1 c2 d0 d1 d2 g0 g1 g2
          go_wp2_with fail
          refine (HC2.out _).mono ?_
          rintro e W5 ⟨rfl, hb⟩
          replace HF := Lib.hid (HF.out.below hb)
          clear hb
          clear c0 c1 c2 d0 d1 d2 g0 g1 g2
          go_wp2_with fail
          go_meet
          case rel => exact ⟨rfl, HF.out⟩
        | true =>
          rw [hbc] at hC2
          rw [less_trans hab hbc] at hC3
          have HC2 := Lib.hid hC2
          have HC3 := Lib.hid hC3
          clear hC2 hC3 hab hbc
          have c0 := HF.out.i0.cell 0
          have c1 := HF.out.i0.cell 1
          have c2 := HF.out.i0.cell 2
          have d0 := HF.out.i1.cell 0
          have d1 := HF.out.i1.cell 1
          have d2 := HF.out.i1.cell 2
          have g0 := HF.out.i2.cell 0
          have g1 := HF.out.i2.cell 1
          have g2 := HF.out.i2.cell 2
          simp at c0 c1 c2 d0 d1 d2 g0 g1 g2
          go_wp2_with fail
          refine (HC2.out _).mono ?_
          rintro e W5 ⟨rfl, hb⟩
          replace HF := Lib.hid (HF.out.below hb)
          clear hb
          clear c0 c1 c2 d0 d1 d2 g0 g1 g2
          have c0 := HF.out.i0.cell 0
          have c1 := HF.out.i0.cell 1
          have c2 := HF.out.i0.cell 2
          have d0 := HF.out.i1.cell 0
          have d1 := HF.out.i1.cell 1
          have d2 := HF.out.i1.cell 2
          have g0 := HF.out.i2.cell 0
          have g1 := HF.out.i2.cell 1
          have g2 := HF.out.i2.cell 2
          simp at c0 c1 c2 d0 d1 d2 g0 g1 g2
          go_wp2_with fail
          refine (HC3.out _).mono ?_
          rintro e W5 ⟨rfl, hb⟩
          replace HF := Lib.hid (HF.out.below hb)
          clear hb
          clear c0 c1 c2 d0 d1 d2 g0 g1 g2
          go_wp2_with fail
          go_meet
          case rel => exact ⟨rfl, HF.out⟩
    case rest =>
      obtain ⟨rfl, hF⟩ := hcut
      replace HF := Lib.hid hF
      clear hF
      have c0 := HF.out.i0.cell 0
      have c1 := HF.out.i0.cell 1
      have c2 := HF.out.i0.cell 2
      have d0 := HF.out.i1.cell 0
      have d1 := HF.out.i1.cell 1
      have d2 := HF.out.i1.cell 2
      have g0 := HF.out.i2.cell 0
      have g1 := HF.out.i2.cell 1
      have g2 := HF.out.i2.cell 2
      simp at c0 c1 c2 d0 d1 d2 g0 g1 g2
      go_wp2_with fail
      refine (Sorted3 a b c _ 27 _ (Blk.new _ _ _)).mono ?_
      rintro e W7 ⟨p, cp, rfl, hS, hb'⟩
      replace HF := Lib.hid ((HF.out.below (Below.trans ((Below.refl _ _).alloc (Nat.le_refl _) _) (hb'.mono (by simp)))))
      clear hb'
      clear c0 c1 c2 d0 d1 d2 g0 g1 g2
      obtain ⟨x0, x1, x2, es, h10, h21, hr⟩ := sort3 a b c
      rw [es] at hS
      have HL1 := Lib.hid (fun W => Less_any x1 x0 W)
      have HL2 := Lib.hid (fun W => Less_any x2 x1 W)
      rw [h10] at HL1
      rw [h21] at HL2
      obtain ⟨b8, off, rfl, hlt, hcs⟩ := hS.2.2.resolve_left (by simp)
      have HSS := Lib.hid hS
      have HCS := Lib.hid hcs
      have HLT := Lib.hid hlt
      have HRB := Lib.hid hr
      clear es h10 h21 hS hcs hlt hr
      go_upto_region 8 with fail
      obtain ⟨S, hSdef⟩ : ∃ S : World → Prop, S = fun X => TF w a b c q0 q1 q2 X ∧ Below W7.heap.size W7 X := ⟨_, rfl⟩
      have H0 : Hid (∀ X, S X → Blk X q0 27 #[.int .u64 a.t, .int .i64 a.s, .int .u64 a.q]) := fun X hX => by rw [hSdef] at hX; exact hX.1.i0
      have H1 : Hid (∀ X, S X → Blk X q1 27 #[.int .u64 b.t, .int .i64 b.s, .int .u64 b.q]) := fun X hX => by rw [hSdef] at hX; exact hX.1.i1
      have H2 : Hid (∀ X, S X → Blk X q2 27 #[.int .u64 c.t, .int .i64 c.s, .int .u64 c.q]) := fun X hX => by rw [hSdef] at hX; exact hX.1.i2
      have HR : Hid (∀ X, S X → RowS encId 3 X (some ⟨b8, off, none⟩) 3 [x0, x1, x2]) := fun X hX => by rw [hSdef] at hX; exact HSS.out.below hX.2
      have HX : Hid (∀ X, S X → ∀ j i, X.cell? ⟨b8, off + j * 3 + i, none⟩ = W7.cell? ⟨b8, off + j * 3 + i, none⟩) := fun X hX j i => by rw [hSdef] at hX; exact hX.2.cell (p := ⟨b8, off + j * 3 + i, none⟩) HLT.out
      have HSF : Hid (∀ X, S X → TF w a b c q0 q1 q2 X) := fun X hX => by rw [hSdef] at hX; exact hX.1
      have HSn : Hid (∀ X X', S X → Below X.heap.size X X' → S X') := by intro X X' h hb; rw [hSdef] at h ⊢; exact ⟨h.1.below hb, h.2.trans (hb.mono h.2.size)⟩
      have hS0 : S W7.drew := by rw [hSdef]; exact ⟨HF.out.below (Below.refl _ _).drew, (Below.refl _ _).drew⟩
      have hRI : ∀ W, RowS encId 3 W (some ⟨b8, off, none⟩) 3 [x0, x1, x2] → Calls Tryd.prog 33 #[.slice (some ⟨b8, off, none⟩) 3 cp] W (Ret (.bool (riseB [x0, x1, x2])) W) := fun W h => Rising_any _ 3 cp _ W h
      rw [HRB.out] at hRI
      clear hSdef HF HSS HRB
      cases hab : eqId a b with
      | true =>
        rw [hab] at hRI
        simp only [Bool.not_true, Bool.false_and] at hRI
        have HRI := Lib.hid hRI
        have HEab := Lib.hid hab
        clear hRI hab
        refine wp_region_held_rel 41 S (fun k u X => match k with
          | 10 => u = .bool false
          | 20 => u = .bool false
          | 25 => u = .bool false
          | _ => True) rfl (by kernel_rfl) (by kernel_rfl) (by kernel_rfl) (by
            intro k u X X' hb hF
            revert hF
            split <;> intro hF <;> exact hF) hS0 ?_
        clear hS0
        simp only [List.take_succ_cons, List.take_zero, List.drop_succ_cons, List.drop_zero]
        refine relSeq_on rfl (fun K hK w1 hS1 hD1 => ?_)
        go_simp
        refine ⟨⟨trivial, hS1, Below.refl _ _⟩, hK _ ?_⟩
        clear hK hD1 hS1 K w1
        refine relSeq_on rfl (fun K hK w1 hS1 hD1 => ?_)
        go_simp
        refine ⟨⟨trivial, hS1, Below.refl _ _⟩, hK _ ?_⟩
        clear hK hD1 hS1 K w1
        refine relSeq_on rfl (fun K hK w1 hS1 hD1 => ?_)
        go_simp
        refine ⟨⟨trivial, hS1, Below.refl _ _⟩, hK _ ?_⟩
        clear hK hD1 hS1 K w1
        refine relSeq_on rfl (fun K hK w1 hS1 hD1 => ?_)
        go_simp
        refine ⟨⟨trivial, hS1, Below.refl _ _⟩, hK _ ?_⟩
        clear hK hD1 hS1 K w1
        refine relSeq_on rfl (fun K hK w1 hS1 hD1 => ?_)
        go_simp
        refine ⟨⟨trivial, hS1, Below.refl _ _⟩, hK _ ?_⟩
        clear hK hD1 hS1 K w1
        refine relSeq_on rfl (fun K hK w1 hS1 hD1 => ?_)
        go_simp
        refine ⟨⟨trivial, hS1, Below.refl _ _⟩, hK _ ?_⟩
        clear hK hD1 hS1 K w1
        refine relSeq_on rfl (fun K hK w1 hS1 hD1 => ?_)
        have c0 := (HX.out w1 hS1 1 0).trans (HCS.out 1 x1 rfl 0 _ rfl)
        have c1 := (HX.out w1 hS1 1 1).trans (HCS.out 1 x1 rfl 1 _ rfl)
        have c2 := (HX.out w1 hS1 1 2).trans (HCS.out 1 x1 rfl 2 _ rfl)
        simp at c0 c1 c2
        go_simp
        refine ⟨⟨trivial, hS1, Below.refl _ _⟩, hK _ ?_⟩
        clear hK hD1 c0 c1 c2 hS1 K w1
        refine relSeq_on rfl (fun K hK w1 hS1 hD1 => ?_)
        go_simp
        refine ⟨⟨trivial, hS1, Below.refl _ _⟩, hK _ ?_⟩
        clear hK hD1 hS1 K w1
        refine relSeq_on rfl (fun K hK w1 hS1 hD1 => ?_)
        go_simp
        refine ⟨⟨trivial, hS1, Below.refl _ _⟩, hK _ ?_⟩
        clear hK hD1 hS1 K w1
        refine relSeq_on rfl (fun K hK w1 hS1 hD1 => ?_)
        have c0 := (HX.out w1 hS1 0 0).trans (HCS.out 0 x0 rfl 0 _ rfl)
        have c1 := (HX.out w1 hS1 0 1).trans (HCS.out 0 x0 rfl 1 _ rfl)
        have c2 := (HX.out w1 hS1 0 2).trans (HCS.out 0 x0 rfl 2 _ rfl)
        simp at c0 c1 c2
        go_simp
        refine ⟨⟨trivial, hS1, Below.refl _ _⟩, hK _ ?_⟩
        clear hK hD1 c0 c1 c2 hS1 K w1
        refine relSeq_on rfl (fun K hK w1 hS1 hD1 => ?_)
        go_simp
        refine ⟨(HL1.out w1).mono fun e w2 he => ⟨_, he.1, rfl, HSn.out _ _ hS1 he.2, he.2⟩, fun v hv => ?_⟩
        obtain ⟨_, _, hv⟩ := hv.out
        obtain rfl : v = .bool false := hv
        refine hK _ ?_
        clear hK hD1 hS1 K w1 hv
        refine relSeq_on rfl (fun K hK w1 hS1 hD1 => ?_)
        go_simp
        refine ⟨⟨trivial, hS1, Below.refl _ _⟩, hK _ ?_⟩
        clear hK hD1 hS1 K w1
        refine relSeq_on rfl (fun K hK w1 hS1 hD1 => ?_)
        go_simp
        refine ⟨⟨trivial, hS1, Below.refl _ _⟩, hK _ ?_⟩
        clear hK hD1 hS1 K w1
        refine relSeq_on rfl (fun K hK w1 hS1 hD1 => ?_)
        go_simp
        refine ⟨⟨trivial, hS1, Below.refl _ _⟩, hK _ ?_⟩
        clear hK hD1 hS1 K w1
        refine relSeq_on rfl (fun K hK w1 hS1 hD1 => ?_)
        go_simp
        refine ⟨⟨trivial, hS1, Below.refl _ _⟩, hK _ ?_⟩
        clear hK hD1 hS1 K w1
        refine relSeq_on rfl (fun K hK w1 hS1 hD1 => ?_)
        go_simp
        refine ⟨⟨trivial, hS1, Below.refl _ _⟩, hK _ ?_⟩
        clear hK hD1 hS1 K w1
        refine relSeq_on rfl (fun K hK w1 hS1 hD1 => ?_)
        have c0 := (HX.out w1 hS1 2 0).trans (HCS.out 2 x2 rfl 0 _ rfl)
        have c1 := (HX.out w1 hS1 2 1).trans (HCS.out 2 x2 rfl 1 _ rfl)
        have c2 := (HX.out w1 hS1 2 2).trans (HCS.out 2 x2 rfl 2 _ rfl)
        simp at c0 c1 c2
        go_simp
        refine ⟨⟨trivial, hS1, Below.refl _ _⟩, hK _ ?_⟩
        clear hK hD1 c0 c1 c2 hS1 K w1
        refine relSeq_on rfl (fun K hK w1 hS1 hD1 => ?_)
        go_simp
        refine ⟨⟨trivial, hS1, Below.refl _ _⟩, hK _ ?_⟩
        clear hK hD1 hS1 K w1
        refine relSeq_on rfl (fun K hK w1 hS1 hD1 => ?_)
        go_simp
        refine ⟨⟨trivial, hS1, Below.refl _ _⟩, hK _ ?_⟩
        clear hK hD1 hS1 K w1
        refine relSeq_on rfl (fun K hK w1 hS1 hD1 => ?_)
        have c0 := (HX.out w1 hS1 1 0).trans (HCS.out 1 x1 rfl 0 _ rfl)
        have c1 := (HX.out w1 hS1 1 1).trans (HCS.out 1 x1 rfl 1 _ rfl)
        have c2 := (HX.out w1 hS1 1 2).trans (HCS.out 1 x1 rfl 2 _ rfl)
        simp at c0 c1 c2
        go_simp
        refine ⟨⟨trivial, hS1, Below.refl _ _⟩, hK _ ?_⟩
        clear hK hD1 c0 c1 c2 hS1 K w1
        refine relSeq_on rfl (fun K hK w1 hS1 hD1 => ?_)
        go_simp
        refine ⟨(HL2.out w1).mono fun e w2 he => ⟨_, he.1, rfl, HSn.out _ _ hS1 he.2, he.2⟩, fun v hv => ?_⟩
        obtain ⟨_, _, hv⟩ := hv.out
        obtain rfl : v = .bool false := hv
        refine hK _ ?_
        clear hK hD1 hS1 K w1 hv
        refine relSeq_on rfl (fun K hK w1 hS1 hD1 => ?_)
        go_simp
        refine ⟨⟨trivial, hS1, Below.refl _ _⟩, hK _ ?_⟩
        clear hK hD1 hS1 K w1
        refine relSeq_on rfl (fun K hK w1 hS1 hD1 => ?_)
        go_simp
        refine ⟨⟨trivial, hS1, Below.refl _ _⟩, hK _ ?_⟩
        clear hK hD1 hS1 K w1
        refine relSeq_on rfl (fun K hK w1 hS1 hD1 => ?_)
        go_simp
        refine ⟨⟨trivial, hS1, Below.refl _ _⟩, hK _ ?_⟩
        clear hK hD1 hS1 K w1
        refine relSeq_on rfl (fun K hK w1 hS1 hD1 => ?_)
        go_simp
        refine ⟨⟨trivial, hS1, Below.refl _ _⟩, hK _ ?_⟩
        clear hK hD1 hS1 K w1
        refine relSeq_on rfl (fun K hK w1 hS1 hD1 => ?_)
        go_simp
        refine ⟨(HRI.out w1 (HR.out w1 hS1)).mono fun e w2 he => ⟨_, he.1, rfl, HSn.out _ _ hS1 he.2, he.2⟩, fun v hv => ?_⟩
        obtain ⟨_, _, hv⟩ := hv.out
        obtain rfl : v = .bool false := hv
        refine hK _ ?_
        clear hK hD1 hS1 K w1 hv
        refine relSeq_on rfl (fun K hK w1 hS1 hD1 => ?_)
        have c0 := (H0.out w1 hS1).cell 0
        have c1 := (H0.out w1 hS1).cell 1
        have c2 := (H0.out w1 hS1).cell 2
        simp at c0 c1 c2
        go_simp
        refine ⟨⟨trivial, hS1, Below.refl _ _⟩, hK _ ?_⟩
        clear hK hD1 c0 c1 c2 hS1 K w1
        refine relSeq_on rfl (fun K hK w1 hS1 hD1 => ?_)
        have c0 := (H1.out w1 hS1).cell 0
        have c1 := (H1.out w1 hS1).cell 1
        have c2 := (H1.out w1 hS1).cell 2
        simp at c0 c1 c2
        go_simp
        refine ⟨⟨trivial, hS1, Below.refl _ _⟩, hK _ ?_⟩
        clear hK hD1 c0 c1 c2 hS1 K w1
        refine relSeq_on rfl (fun K hK w1 hS1 hD1 => ?_)
        go_simp
        simp only [nestT HEab.out]
        refine ⟨⟨trivial, hS1, Below.refl _ _⟩, hK _ ?_⟩
        clear hK hD1 hS1 K w1
        refine relSeq_on rfl (fun K hK w1 hS1 hD1 => ?_)
        go_simp
        refine ⟨⟨trivial, hS1, Below.refl _ _⟩, hK _ ?_⟩
        clear hK hD1 hS1 K w1
        refine relSeq_off rfl (fun _ _ => trivial) (fun K hK => ?_)
        go_simp
        refine hK _ ?_
        clear hK K
        refine relSeq_off rfl (fun _ _ => trivial) (fun K hK => ?_)
        go_simp
        refine hK _ ?_
        clear hK K
        refine relSeq_off rfl (fun _ _ => trivial) (fun K hK => ?_)
        go_simp
        refine hK _ ?_
        clear hK K
        refine relSeq_on rfl (fun K hK w1 hS1 hD1 => ?_)
        go_simp
        refine ⟨⟨trivial, hS1, Below.refl _ _⟩, hK _ ?_⟩
        clear hK hD1 hS1 K w1
        refine relSeq_on rfl (fun K hK w1 hS1 hD1 => ?_)
        go_simp
        refine ⟨⟨trivial, hS1, Below.refl _ _⟩, hK _ ?_⟩
        clear hK hD1 hS1 K w1
        refine relSeq_off rfl (fun _ _ => trivial) (fun K hK => ?_)
        go_simp
        refine hK _ ?_
        clear hK K
        refine relSeq_off rfl (fun _ _ => trivial) (fun K hK => ?_)
        go_simp
        refine hK _ ?_
        clear hK K
        refine relSeq_off rfl (fun _ _ => trivial) (fun K hK => ?_)
        go_simp
        refine hK _ ?_
        clear hK K
        refine relSeq_on rfl (fun K hK w1 hS1 hD1 => ?_)
        go_simp
        refine ⟨⟨trivial, hS1, Below.refl _ _⟩, hK _ ?_⟩
        clear hK hD1 hS1 K w1
        refine relSeq_on rfl (fun K hK w1 hS1 hD1 => ?_)
        go_simp
        refine ⟨⟨trivial, hS1, Below.refl _ _⟩, hK _ ?_⟩
        clear hK hD1 hS1 K w1
        refine relSeq_on rfl (fun K hK w1 hS1 hD1 => ?_)
        go_simp
        refine ⟨⟨trivial, hS1, Below.refl _ _⟩, hK _ ?_⟩
        clear hK hD1 hS1 K w1
        refine relSeq_nil ?_
        intro listed w9 hS2 hF2 hl2
        have HF := Lib.hid (HSF.out w9 hS2)
        clear hF2 hl2 HSn H0 H1 H2 HR HX HCS HLT hS2 HSF
        go_wp2
        go_ret
        exact ⟨rfl, HF.out.hb⟩
      | false =>
        rw [hab] at hRI
        have HEab := Lib.hid hab
        clear hab
        cases hbc : eqId b c with
        | true =>
          rw [hbc] at hRI
          simp only [Bool.not_true, Bool.not_false, Bool.false_and, Bool.and_false] at hRI
          have HRI := Lib.hid hRI
          have HEbc := Lib.hid hbc
          clear hRI hbc
          refine wp_region_held_rel 41 S (fun k u X => match k with
            | 10 => u = .bool false
            | 20 => u = .bool false
            | 25 => u = .bool false
            | _ => True) rfl (by kernel_rfl) (by kernel_rfl) (by kernel_rfl) (by
              intro k u X X' hb hF
              revert hF
              split <;> intro hF <;> exact hF) hS0 ?_
          clear hS0
          simp only [List.take_succ_cons, List.take_zero, List.drop_succ_cons, List.drop_zero]
          refine relSeq_on rfl (fun K hK w1 hS1 hD1 => ?_)
          go_simp
          refine ⟨⟨trivial, hS1, Below.refl _ _⟩, hK _ ?_⟩
          clear hK hD1 hS1 K w1
          refine relSeq_on rfl (fun K hK w1 hS1 hD1 => ?_)
          go_simp
          refine ⟨⟨trivial, hS1, Below.refl _ _⟩, hK _ ?_⟩
          clear hK hD1 hS1 K w1
          refine relSeq_on rfl (fun K hK w1 hS1 hD1 => ?_)
          go_simp
          refine ⟨⟨trivial, hS1, Below.refl _ _⟩, hK _ ?_⟩
          clear hK hD1 hS1 K w1
          refine relSeq_on rfl (fun K hK w1 hS1 hD1 => ?_)
          go_simp
          refine ⟨⟨trivial, hS1, Below.refl _ _⟩, hK _ ?_⟩
          clear hK hD1 hS1 K w1
          refine relSeq_on rfl (fun K hK w1 hS1 hD1 => ?_)
          go_simp
          refine ⟨⟨trivial, hS1, Below.refl _ _⟩, hK _ ?_⟩
          clear hK hD1 hS1 K w1
          refine relSeq_on rfl (fun K hK w1 hS1 hD1 => ?_)
          go_simp
          refine ⟨⟨trivial, hS1, Below.refl _ _⟩, hK _ ?_⟩
          clear hK hD1 hS1 K w1
          refine relSeq_on rfl (fun K hK w1 hS1 hD1 => ?_)
          have c0 := (HX.out w1 hS1 1 0).trans (HCS.out 1 x1 rfl 0 _ rfl)
          have c1 := (HX.out w1 hS1 1 1).trans (HCS.out 1 x1 rfl 1 _ rfl)
          have c2 := (HX.out w1 hS1 1 2).trans (HCS.out 1 x1 rfl 2 _ rfl)
          simp at c0 c1 c2
          go_simp
          refine ⟨⟨trivial, hS1, Below.refl _ _⟩, hK _ ?_⟩
          clear hK hD1 c0 c1 c2 hS1 K w1
          refine relSeq_on rfl (fun K hK w1 hS1 hD1 => ?_)
          go_simp
          refine ⟨⟨trivial, hS1, Below.refl _ _⟩, hK _ ?_⟩
          clear hK hD1 hS1 K w1
          refine relSeq_on rfl (fun K hK w1 hS1 hD1 => ?_)
          go_simp
          refine ⟨⟨trivial, hS1, Below.refl _ _⟩, hK _ ?_⟩
          clear hK hD1 hS1 K w1
          refine relSeq_on rfl (fun K hK w1 hS1 hD1 => ?_)
          have c0 := (HX.out w1 hS1 0 0).trans (HCS.out 0 x0 rfl 0 _ rfl)
          have c1 := (HX.out w1 hS1 0 1).trans (HCS.out 0 x0 rfl 1 _ rfl)
          have c2 := (HX.out w1 hS1 0 2).trans (HCS.out 0 x0 rfl 2 _ rfl)
          simp at c0 c1 c2
          go_simp
          refine ⟨⟨trivial, hS1, Below.refl _ _⟩, hK _ ?_⟩
          clear hK hD1 c0 c1 c2 hS1 K w1
          refine relSeq_on rfl (fun K hK w1 hS1 hD1 => ?_)
          go_simp
          refine ⟨(HL1.out w1).mono fun e w2 he => ⟨_, he.1, rfl, HSn.out _ _ hS1 he.2, he.2⟩, fun v hv => ?_⟩
          obtain ⟨_, _, hv⟩ := hv.out
          obtain rfl : v = .bool false := hv
          refine hK _ ?_
          clear hK hD1 hS1 K w1 hv
          refine relSeq_on rfl (fun K hK w1 hS1 hD1 => ?_)
          go_simp
          refine ⟨⟨trivial, hS1, Below.refl _ _⟩, hK _ ?_⟩
          clear hK hD1 hS1 K w1
          refine relSeq_on rfl (fun K hK w1 hS1 hD1 => ?_)
          go_simp
          refine ⟨⟨trivial, hS1, Below.refl _ _⟩, hK _ ?_⟩
          clear hK hD1 hS1 K w1
          refine relSeq_on rfl (fun K hK w1 hS1 hD1 => ?_)
          go_simp
          refine ⟨⟨trivial, hS1, Below.refl _ _⟩, hK _ ?_⟩
          clear hK hD1 hS1 K w1
          refine relSeq_on rfl (fun K hK w1 hS1 hD1 => ?_)
          go_simp
          refine ⟨⟨trivial, hS1, Below.refl _ _⟩, hK _ ?_⟩
          clear hK hD1 hS1 K w1
          refine relSeq_on rfl (fun K hK w1 hS1 hD1 => ?_)
          go_simp
          refine ⟨⟨trivial, hS1, Below.refl _ _⟩, hK _ ?_⟩
          clear hK hD1 hS1 K w1
          refine relSeq_on rfl (fun K hK w1 hS1 hD1 => ?_)
          have c0 := (HX.out w1 hS1 2 0).trans (HCS.out 2 x2 rfl 0 _ rfl)
          have c1 := (HX.out w1 hS1 2 1).trans (HCS.out 2 x2 rfl 1 _ rfl)
          have c2 := (HX.out w1 hS1 2 2).trans (HCS.out 2 x2 rfl 2 _ rfl)
          simp at c0 c1 c2
          go_simp
          refine ⟨⟨trivial, hS1, Below.refl _ _⟩, hK _ ?_⟩
          clear hK hD1 c0 c1 c2 hS1 K w1
          refine relSeq_on rfl (fun K hK w1 hS1 hD1 => ?_)
          go_simp
          refine ⟨⟨trivial, hS1, Below.refl _ _⟩, hK _ ?_⟩
          clear hK hD1 hS1 K w1
          refine relSeq_on rfl (fun K hK w1 hS1 hD1 => ?_)
          go_simp
          refine ⟨⟨trivial, hS1, Below.refl _ _⟩, hK _ ?_⟩
          clear hK hD1 hS1 K w1
          refine relSeq_on rfl (fun K hK w1 hS1 hD1 => ?_)
          have c0 := (HX.out w1 hS1 1 0).trans (HCS.out 1 x1 rfl 0 _ rfl)
          have c1 := (HX.out w1 hS1 1 1).trans (HCS.out 1 x1 rfl 1 _ rfl)
          have c2 := (HX.out w1 hS1 1 2).trans (HCS.out 1 x1 rfl 2 _ rfl)
          simp at c0 c1 c2
          go_simp
          refine ⟨⟨trivial, hS1, Below.refl _ _⟩, hK _ ?_⟩
          clear hK hD1 c0 c1 c2 hS1 K w1
          refine relSeq_on rfl (fun K hK w1 hS1 hD1 => ?_)
          go_simp
          refine ⟨(HL2.out w1).mono fun e w2 he => ⟨_, he.1, rfl, HSn.out _ _ hS1 he.2, he.2⟩, fun v hv => ?_⟩
          obtain ⟨_, _, hv⟩ := hv.out
          obtain rfl : v = .bool false := hv
          refine hK _ ?_
          clear hK hD1 hS1 K w1 hv
          refine relSeq_on rfl (fun K hK w1 hS1 hD1 => ?_)
          go_simp
          refine ⟨⟨trivial, hS1, Below.refl _ _⟩, hK _ ?_⟩
          clear hK hD1 hS1 K w1
          refine relSeq_on rfl (fun K hK w1 hS1 hD1 => ?_)
          go_simp
          refine ⟨⟨trivial, hS1, Below.refl _ _⟩, hK _ ?_⟩
          clear hK hD1 hS1 K w1
          refine relSeq_on rfl (fun K hK w1 hS1 hD1 => ?_)
          go_simp
          refine ⟨⟨trivial, hS1, Below.refl _ _⟩, hK _ ?_⟩
          clear hK hD1 hS1 K w1
          refine relSeq_on rfl (fun K hK w1 hS1 hD1 => ?_)
          go_simp
          refine ⟨⟨trivial, hS1, Below.refl _ _⟩, hK _ ?_⟩
          clear hK hD1 hS1 K w1
          refine relSeq_on rfl (fun K hK w1 hS1 hD1 => ?_)
          go_simp
          refine ⟨(HRI.out w1 (HR.out w1 hS1)).mono fun e w2 he => ⟨_, he.1, rfl, HSn.out _ _ hS1 he.2, he.2⟩, fun v hv => ?_⟩
          obtain ⟨_, _, hv⟩ := hv.out
          obtain rfl : v = .bool false := hv
          refine hK _ ?_
          clear hK hD1 hS1 K w1 hv
          refine relSeq_on rfl (fun K hK w1 hS1 hD1 => ?_)
          have c0 := (H0.out w1 hS1).cell 0
          have c1 := (H0.out w1 hS1).cell 1
          have c2 := (H0.out w1 hS1).cell 2
          simp at c0 c1 c2
          go_simp
          refine ⟨⟨trivial, hS1, Below.refl _ _⟩, hK _ ?_⟩
          clear hK hD1 c0 c1 c2 hS1 K w1
          refine relSeq_on rfl (fun K hK w1 hS1 hD1 => ?_)
          have c0 := (H1.out w1 hS1).cell 0
          have c1 := (H1.out w1 hS1).cell 1
          have c2 := (H1.out w1 hS1).cell 2
          simp at c0 c1 c2
          go_simp
          refine ⟨⟨trivial, hS1, Below.refl _ _⟩, hK _ ?_⟩
          clear hK hD1 c0 c1 c2 hS1 K w1
          refine relSeq_on rfl (fun K hK w1 hS1 hD1 => ?_)
          go_simp
          simp only [nestF HEab.out]
          refine ⟨⟨trivial, hS1, Below.refl _ _⟩, hK _ ?_⟩
          clear hK hD1 hS1 K w1
          refine relSeq_on rfl (fun K hK w1 hS1 hD1 => ?_)
          go_simp
          refine ⟨⟨trivial, hS1, Below.refl _ _⟩, hK _ ?_⟩
          clear hK hD1 hS1 K w1
          refine relSeq_on rfl (fun K hK w1 hS1 hD1 => ?_)
          have c0 := (H1.out w1 hS1).cell 0
          have c1 := (H1.out w1 hS1).cell 1
          have c2 := (H1.out w1 hS1).cell 2
          simp at c0 c1 c2
          go_simp
          refine ⟨⟨trivial, hS1, Below.refl _ _⟩, hK _ ?_⟩
          clear hK hD1 c0 c1 c2 hS1 K w1
          refine relSeq_on rfl (fun K hK w1 hS1 hD1 => ?_)
          have c0 := (H2.out w1 hS1).cell 0
          have c1 := (H2.out w1 hS1).cell 1
          have c2 := (H2.out w1 hS1).cell 2
          simp at c0 c1 c2
          go_simp
          refine ⟨⟨trivial, hS1, Below.refl _ _⟩, hK _ ?_⟩
          clear hK hD1 c0 c1 c2 hS1 K w1
          refine relSeq_on rfl (fun K hK w1 hS1 hD1 => ?_)
          go_simp
          simp only [nestT HEbc.out]
          refine ⟨⟨trivial, hS1, Below.refl _ _⟩, hK _ ?_⟩
          clear hK hD1 hS1 K w1
          refine relSeq_on rfl (fun K hK w1 hS1 hD1 => ?_)
          go_simp
          refine ⟨⟨trivial, hS1, Below.refl _ _⟩, hK _ ?_⟩
          clear hK hD1 hS1 K w1
          refine relSeq_on rfl (fun K hK w1 hS1 hD1 => ?_)
          go_simp
          refine ⟨⟨trivial, hS1, Below.refl _ _⟩, hK _ ?_⟩
          clear hK hD1 hS1 K w1
          refine relSeq_off rfl (fun _ _ => trivial) (fun K hK => ?_)
          go_simp
          refine hK _ ?_
          clear hK K
          refine relSeq_off rfl (fun _ _ => trivial) (fun K hK => ?_)
          go_simp
          refine hK _ ?_
          clear hK K
          refine relSeq_off rfl (fun _ _ => trivial) (fun K hK => ?_)
          go_simp
          refine hK _ ?_
          clear hK K
          refine relSeq_on rfl (fun K hK w1 hS1 hD1 => ?_)
          go_simp
          refine ⟨⟨trivial, hS1, Below.refl _ _⟩, hK _ ?_⟩
          clear hK hD1 hS1 K w1
          refine relSeq_on rfl (fun K hK w1 hS1 hD1 => ?_)
          go_simp
          refine ⟨⟨trivial, hS1, Below.refl _ _⟩, hK _ ?_⟩
          clear hK hD1 hS1 K w1
          refine relSeq_on rfl (fun K hK w1 hS1 hD1 => ?_)
          go_simp
          refine ⟨⟨trivial, hS1, Below.refl _ _⟩, hK _ ?_⟩
          clear hK hD1 hS1 K w1
          refine relSeq_nil ?_
          intro listed w9 hS2 hF2 hl2
          have HF := Lib.hid (HSF.out w9 hS2)
          clear hF2 hl2 HSn H0 H1 H2 HR HX HCS HLT hS2 HSF
          go_wp2
          go_ret
          exact ⟨rfl, HF.out.hb⟩
        | false =>
          rw [hbc] at hRI
          have HEbc := Lib.hid hbc
          clear hbc
          cases hac : eqId a c with
          | true =>
            rw [hac] at hRI
            simp only [Bool.not_true, Bool.not_false, Bool.and_false] at hRI
            have HRI := Lib.hid hRI
            have HEac := Lib.hid hac
            clear hRI hac
            refine wp_region_held_rel 41 S (fun k u X => match k with
              | 10 => u = .bool false
              | 20 => u = .bool false
              | 25 => u = .bool false
              | _ => True) rfl (by kernel_rfl) (by kernel_rfl) (by kernel_rfl) (by
                intro k u X X' hb hF
                revert hF
                split <;> intro hF <;> exact hF) hS0 ?_
            clear hS0
            simp only [List.take_succ_cons, List.take_zero, List.drop_succ_cons, List.drop_zero]
            refine relSeq_on rfl (fun K hK w1 hS1 hD1 => ?_)
            go_simp
            refine ⟨⟨trivial, hS1, Below.refl _ _⟩, hK _ ?_⟩
            clear hK hD1 hS1 K w1
            refine relSeq_on rfl (fun K hK w1 hS1 hD1 => ?_)
            go_simp
            refine ⟨⟨trivial, hS1, Below.refl _ _⟩, hK _ ?_⟩
            clear hK hD1 hS1 K w1
            refine relSeq_on rfl (fun K hK w1 hS1 hD1 => ?_)
            go_simp
            refine ⟨⟨trivial, hS1, Below.refl _ _⟩, hK _ ?_⟩
            clear hK hD1 hS1 K w1
            refine relSeq_on rfl (fun K hK w1 hS1 hD1 => ?_)
            go_simp
            refine ⟨⟨trivial, hS1, Below.refl _ _⟩, hK _ ?_⟩
            clear hK hD1 hS1 K w1
            refine relSeq_on rfl (fun K hK w1 hS1 hD1 => ?_)
            go_simp
            refine ⟨⟨trivial, hS1, Below.refl _ _⟩, hK _ ?_⟩
            clear hK hD1 hS1 K w1
            refine relSeq_on rfl (fun K hK w1 hS1 hD1 => ?_)
            go_simp
            refine ⟨⟨trivial, hS1, Below.refl _ _⟩, hK _ ?_⟩
            clear hK hD1 hS1 K w1
            refine relSeq_on rfl (fun K hK w1 hS1 hD1 => ?_)
            have c0 := (HX.out w1 hS1 1 0).trans (HCS.out 1 x1 rfl 0 _ rfl)
            have c1 := (HX.out w1 hS1 1 1).trans (HCS.out 1 x1 rfl 1 _ rfl)
            have c2 := (HX.out w1 hS1 1 2).trans (HCS.out 1 x1 rfl 2 _ rfl)
            simp at c0 c1 c2
            go_simp
            refine ⟨⟨trivial, hS1, Below.refl _ _⟩, hK _ ?_⟩
            clear hK hD1 c0 c1 c2 hS1 K w1
            refine relSeq_on rfl (fun K hK w1 hS1 hD1 => ?_)
            go_simp
            refine ⟨⟨trivial, hS1, Below.refl _ _⟩, hK _ ?_⟩
            clear hK hD1 hS1 K w1
            refine relSeq_on rfl (fun K hK w1 hS1 hD1 => ?_)
            go_simp
            refine ⟨⟨trivial, hS1, Below.refl _ _⟩, hK _ ?_⟩
            clear hK hD1 hS1 K w1
            refine relSeq_on rfl (fun K hK w1 hS1 hD1 => ?_)
            have c0 := (HX.out w1 hS1 0 0).trans (HCS.out 0 x0 rfl 0 _ rfl)
            have c1 := (HX.out w1 hS1 0 1).trans (HCS.out 0 x0 rfl 1 _ rfl)
            have c2 := (HX.out w1 hS1 0 2).trans (HCS.out 0 x0 rfl 2 _ rfl)
            simp at c0 c1 c2
            go_simp
            refine ⟨⟨trivial, hS1, Below.refl _ _⟩, hK _ ?_⟩
            clear hK hD1 c0 c1 c2 hS1 K w1
            refine relSeq_on rfl (fun K hK w1 hS1 hD1 => ?_)
            go_simp
            refine ⟨(HL1.out w1).mono fun e w2 he => ⟨_, he.1, rfl, HSn.out _ _ hS1 he.2, he.2⟩, fun v hv => ?_⟩
            obtain ⟨_, _, hv⟩ := hv.out
            obtain rfl : v = .bool false := hv
            refine hK _ ?_
            clear hK hD1 hS1 K w1 hv
            refine relSeq_on rfl (fun K hK w1 hS1 hD1 => ?_)
            go_simp
            refine ⟨⟨trivial, hS1, Below.refl _ _⟩, hK _ ?_⟩
            clear hK hD1 hS1 K w1
            refine relSeq_on rfl (fun K hK w1 hS1 hD1 => ?_)
            go_simp
            refine ⟨⟨trivial, hS1, Below.refl _ _⟩, hK _ ?_⟩
            clear hK hD1 hS1 K w1
            refine relSeq_on rfl (fun K hK w1 hS1 hD1 => ?_)
            go_simp
            refine ⟨⟨trivial, hS1, Below.refl _ _⟩, hK _ ?_⟩
            clear hK hD1 hS1 K w1
            refine relSeq_on rfl (fun K hK w1 hS1 hD1 => ?_)
            go_simp
            refine ⟨⟨trivial, hS1, Below.refl _ _⟩, hK _ ?_⟩
            clear hK hD1 hS1 K w1
            refine relSeq_on rfl (fun K hK w1 hS1 hD1 => ?_)
            go_simp
            refine ⟨⟨trivial, hS1, Below.refl _ _⟩, hK _ ?_⟩
            clear hK hD1 hS1 K w1
            refine relSeq_on rfl (fun K hK w1 hS1 hD1 => ?_)
            have c0 := (HX.out w1 hS1 2 0).trans (HCS.out 2 x2 rfl 0 _ rfl)
            have c1 := (HX.out w1 hS1 2 1).trans (HCS.out 2 x2 rfl 1 _ rfl)
            have c2 := (HX.out w1 hS1 2 2).trans (HCS.out 2 x2 rfl 2 _ rfl)
            simp at c0 c1 c2
            go_simp
            refine ⟨⟨trivial, hS1, Below.refl _ _⟩, hK _ ?_⟩
            clear hK hD1 c0 c1 c2 hS1 K w1
            refine relSeq_on rfl (fun K hK w1 hS1 hD1 => ?_)
            go_simp
            refine ⟨⟨trivial, hS1, Below.refl _ _⟩, hK _ ?_⟩
            clear hK hD1 hS1 K w1
            refine relSeq_on rfl (fun K hK w1 hS1 hD1 => ?_)
            go_simp
            refine ⟨⟨trivial, hS1, Below.refl _ _⟩, hK _ ?_⟩
            clear hK hD1 hS1 K w1
            refine relSeq_on rfl (fun K hK w1 hS1 hD1 => ?_)
            have c0 := (HX.out w1 hS1 1 0).trans (HCS.out 1 x1 rfl 0 _ rfl)
            have c1 := (HX.out w1 hS1 1 1).trans (HCS.out 1 x1 rfl 1 _ rfl)
            have c2 := (HX.out w1 hS1 1 2).trans (HCS.out 1 x1 rfl 2 _ rfl)
            simp at c0 c1 c2
            go_simp
            refine ⟨⟨trivial, hS1, Below.refl _ _⟩, hK _ ?_⟩
            clear hK hD1 c0 c1 c2 hS1 K w1
            refine relSeq_on rfl (fun K hK w1 hS1 hD1 => ?_)
            go_simp
            refine ⟨(HL2.out w1).mono fun e w2 he => ⟨_, he.1, rfl, HSn.out _ _ hS1 he.2, he.2⟩, fun v hv => ?_⟩
            obtain ⟨_, _, hv⟩ := hv.out
            obtain rfl : v = .bool false := hv
            refine hK _ ?_
            clear hK hD1 hS1 K w1 hv
            refine relSeq_on rfl (fun K hK w1 hS1 hD1 => ?_)
            go_simp
            refine ⟨⟨trivial, hS1, Below.refl _ _⟩, hK _ ?_⟩
            clear hK hD1 hS1 K w1
            refine relSeq_on rfl (fun K hK w1 hS1 hD1 => ?_)
            go_simp
            refine ⟨⟨trivial, hS1, Below.refl _ _⟩, hK _ ?_⟩
            clear hK hD1 hS1 K w1
            refine relSeq_on rfl (fun K hK w1 hS1 hD1 => ?_)
            go_simp
            refine ⟨⟨trivial, hS1, Below.refl _ _⟩, hK _ ?_⟩
            clear hK hD1 hS1 K w1
            refine relSeq_on rfl (fun K hK w1 hS1 hD1 => ?_)
            go_simp
            refine ⟨⟨trivial, hS1, Below.refl _ _⟩, hK _ ?_⟩
            clear hK hD1 hS1 K w1
            refine relSeq_on rfl (fun K hK w1 hS1 hD1 => ?_)
            go_simp
            refine ⟨(HRI.out w1 (HR.out w1 hS1)).mono fun e w2 he => ⟨_, he.1, rfl, HSn.out _ _ hS1 he.2, he.2⟩, fun v hv => ?_⟩
            obtain ⟨_, _, hv⟩ := hv.out
            obtain rfl : v = .bool false := hv
            refine hK _ ?_
            clear hK hD1 hS1 K w1 hv
            refine relSeq_on rfl (fun K hK w1 hS1 hD1 => ?_)
            have c0 := (H0.out w1 hS1).cell 0
            have c1 := (H0.out w1 hS1).cell 1
            have c2 := (H0.out w1 hS1).cell 2
            simp at c0 c1 c2
            go_simp
            refine ⟨⟨trivial, hS1, Below.refl _ _⟩, hK _ ?_⟩
            clear hK hD1 c0 c1 c2 hS1 K w1
            refine relSeq_on rfl (fun K hK w1 hS1 hD1 => ?_)
            have c0 := (H1.out w1 hS1).cell 0
            have c1 := (H1.out w1 hS1).cell 1
            have c2 := (H1.out w1 hS1).cell 2
            simp at c0 c1 c2
            go_simp
            refine ⟨⟨trivial, hS1, Below.refl _ _⟩, hK _ ?_⟩
            clear hK hD1 c0 c1 c2 hS1 K w1
            refine relSeq_on rfl (fun K hK w1 hS1 hD1 => ?_)
            go_simp
            simp only [nestF HEab.out]
            refine ⟨⟨trivial, hS1, Below.refl _ _⟩, hK _ ?_⟩
            clear hK hD1 hS1 K w1
            refine relSeq_on rfl (fun K hK w1 hS1 hD1 => ?_)
            go_simp
            refine ⟨⟨trivial, hS1, Below.refl _ _⟩, hK _ ?_⟩
            clear hK hD1 hS1 K w1
            refine relSeq_on rfl (fun K hK w1 hS1 hD1 => ?_)
            have c0 := (H1.out w1 hS1).cell 0
            have c1 := (H1.out w1 hS1).cell 1
            have c2 := (H1.out w1 hS1).cell 2
            simp at c0 c1 c2
            go_simp
            refine ⟨⟨trivial, hS1, Below.refl _ _⟩, hK _ ?_⟩
            clear hK hD1 c0 c1 c2 hS1 K w1
            refine relSeq_on rfl (fun K hK w1 hS1 hD1 => ?_)
            have c0 := (H2.out w1 hS1).cell 0
            have c1 := (H2.out w1 hS1).cell 1
            have c2 := (H2.out w1 hS1).cell 2
            simp at c0 c1 c2
            go_simp
            refine ⟨⟨trivial, hS1, Below.refl _ _⟩, hK _ ?_⟩
            clear hK hD1 c0 c1 c2 hS1 K w1
            refine relSeq_on rfl (fun K hK w1 hS1 hD1 => ?_)
            go_simp
            simp only [nestF HEbc.out]
            refine ⟨⟨trivial, hS1, Below.refl _ _⟩, hK _ ?_⟩
            clear hK hD1 hS1 K w1
            refine relSeq_on rfl (fun K hK w1 hS1 hD1 => ?_)
            go_simp
            refine ⟨⟨trivial, hS1, Below.refl _ _⟩, hK _ ?_⟩
            clear hK hD1 hS1 K w1
            refine relSeq_on rfl (fun K hK w1 hS1 hD1 => ?_)
            go_simp
            refine ⟨⟨trivial, hS1, Below.refl _ _⟩, hK _ ?_⟩
            clear hK hD1 hS1 K w1
            refine relSeq_on rfl (fun K hK w1 hS1 hD1 => ?_)
            have c0 := (H0.out w1 hS1).cell 0
            have c1 := (H0.out w1 hS1).cell 1
            have c2 := (H0.out w1 hS1).cell 2
            simp at c0 c1 c2
            go_simp
            refine ⟨⟨trivial, hS1, Below.refl _ _⟩, hK _ ?_⟩
            clear hK hD1 c0 c1 c2 hS1 K w1
            refine relSeq_on rfl (fun K hK w1 hS1 hD1 => ?_)
            have c0 := (H2.out w1 hS1).cell 0
            have c1 := (H2.out w1 hS1).cell 1
            have c2 := (H2.out w1 hS1).cell 2
            simp at c0 c1 c2
            go_simp
            refine ⟨⟨trivial, hS1, Below.refl _ _⟩, hK _ ?_⟩
            clear hK hD1 c0 c1 c2 hS1 K w1
            refine relSeq_on rfl (fun K hK w1 hS1 hD1 => ?_)
            go_simp
            simp only [nestT HEac.out]
            refine ⟨⟨trivial, hS1, Below.refl _ _⟩, hK _ ?_⟩
            clear hK hD1 hS1 K w1
            refine relSeq_on rfl (fun K hK w1 hS1 hD1 => ?_)
            go_simp
            refine ⟨⟨trivial, hS1, Below.refl _ _⟩, hK _ ?_⟩
            clear hK hD1 hS1 K w1
            refine relSeq_on rfl (fun K hK w1 hS1 hD1 => ?_)
            go_simp
            refine ⟨⟨trivial, hS1, Below.refl _ _⟩, hK _ ?_⟩
            clear hK hD1 hS1 K w1
            refine relSeq_on rfl (fun K hK w1 hS1 hD1 => ?_)
            go_simp
            refine ⟨⟨trivial, hS1, Below.refl _ _⟩, hK _ ?_⟩
            clear hK hD1 hS1 K w1
            refine relSeq_nil ?_
            intro listed w9 hS2 hF2 hl2
            have HF := Lib.hid (HSF.out w9 hS2)
            clear hF2 hl2 HSn H0 H1 H2 HR HX HCS HLT hS2 HSF
            go_wp2
            go_ret
            exact ⟨rfl, HF.out.hb⟩
          | false =>
            rw [hac] at hRI
            simp only [Bool.not_false, Bool.and_true] at hRI
            have HRI := Lib.hid hRI
            have HEac := Lib.hid hac
            clear hRI hac
            refine wp_region_held_rel 41 S (fun k u X => match k with
              | 10 => u = .bool false
              | 20 => u = .bool false
              | 25 => u = .bool true
              | _ => True) rfl (by kernel_rfl) (by kernel_rfl) (by kernel_rfl) (by
                intro k u X X' hb hF
                revert hF
                split <;> intro hF <;> exact hF) hS0 ?_
            clear hS0
            simp only [List.take_succ_cons, List.take_zero, List.drop_succ_cons, List.drop_zero]
            refine relSeq_on rfl (fun K hK w1 hS1 hD1 => ?_)
            go_simp
            refine ⟨⟨trivial, hS1, Below.refl _ _⟩, hK _ ?_⟩
            clear hK hD1 hS1 K w1
            refine relSeq_on rfl (fun K hK w1 hS1 hD1 => ?_)
            go_simp
            refine ⟨⟨trivial, hS1, Below.refl _ _⟩, hK _ ?_⟩
            clear hK hD1 hS1 K w1
            refine relSeq_on rfl (fun K hK w1 hS1 hD1 => ?_)
            go_simp
            refine ⟨⟨trivial, hS1, Below.refl _ _⟩, hK _ ?_⟩
            clear hK hD1 hS1 K w1
            refine relSeq_on rfl (fun K hK w1 hS1 hD1 => ?_)
            go_simp
            refine ⟨⟨trivial, hS1, Below.refl _ _⟩, hK _ ?_⟩
            clear hK hD1 hS1 K w1
            refine relSeq_on rfl (fun K hK w1 hS1 hD1 => ?_)
            go_simp
            refine ⟨⟨trivial, hS1, Below.refl _ _⟩, hK _ ?_⟩
            clear hK hD1 hS1 K w1
            refine relSeq_on rfl (fun K hK w1 hS1 hD1 => ?_)
            go_simp
            refine ⟨⟨trivial, hS1, Below.refl _ _⟩, hK _ ?_⟩
            clear hK hD1 hS1 K w1
            refine relSeq_on rfl (fun K hK w1 hS1 hD1 => ?_)
            have c0 := (HX.out w1 hS1 1 0).trans (HCS.out 1 x1 rfl 0 _ rfl)
            have c1 := (HX.out w1 hS1 1 1).trans (HCS.out 1 x1 rfl 1 _ rfl)
            have c2 := (HX.out w1 hS1 1 2).trans (HCS.out 1 x1 rfl 2 _ rfl)
            simp at c0 c1 c2
            go_simp
            refine ⟨⟨trivial, hS1, Below.refl _ _⟩, hK _ ?_⟩
            clear hK hD1 c0 c1 c2 hS1 K w1
            refine relSeq_on rfl (fun K hK w1 hS1 hD1 => ?_)
            go_simp
            refine ⟨⟨trivial, hS1, Below.refl _ _⟩, hK _ ?_⟩
            clear hK hD1 hS1 K w1
            refine relSeq_on rfl (fun K hK w1 hS1 hD1 => ?_)
            go_simp
            refine ⟨⟨trivial, hS1, Below.refl _ _⟩, hK _ ?_⟩
            clear hK hD1 hS1 K w1
            refine relSeq_on rfl (fun K hK w1 hS1 hD1 => ?_)
            have c0 := (HX.out w1 hS1 0 0).trans (HCS.out 0 x0 rfl 0 _ rfl)
            have c1 := (HX.out w1 hS1 0 1).trans (HCS.out 0 x0 rfl 1 _ rfl)
            have c2 := (HX.out w1 hS1 0 2).trans (HCS.out 0 x0 rfl 2 _ rfl)
            simp at c0 c1 c2
            go_simp
            refine ⟨⟨trivial, hS1, Below.refl _ _⟩, hK _ ?_⟩
            clear hK hD1 c0 c1 c2 hS1 K w1
            refine relSeq_on rfl (fun K hK w1 hS1 hD1 => ?_)
            go_simp
            refine ⟨(HL1.out w1).mono fun e w2 he => ⟨_, he.1, rfl, HSn.out _ _ hS1 he.2, he.2⟩, fun v hv => ?_⟩
            obtain ⟨_, _, hv⟩ := hv.out
            obtain rfl : v = .bool false := hv
            refine hK _ ?_
            clear hK hD1 hS1 K w1 hv
            refine relSeq_on rfl (fun K hK w1 hS1 hD1 => ?_)
            go_simp
            refine ⟨⟨trivial, hS1, Below.refl _ _⟩, hK _ ?_⟩
            clear hK hD1 hS1 K w1
            refine relSeq_on rfl (fun K hK w1 hS1 hD1 => ?_)
            go_simp
            refine ⟨⟨trivial, hS1, Below.refl _ _⟩, hK _ ?_⟩
            clear hK hD1 hS1 K w1
            refine relSeq_on rfl (fun K hK w1 hS1 hD1 => ?_)
            go_simp
            refine ⟨⟨trivial, hS1, Below.refl _ _⟩, hK _ ?_⟩
            clear hK hD1 hS1 K w1
            refine relSeq_on rfl (fun K hK w1 hS1 hD1 => ?_)
            go_simp
            refine ⟨⟨trivial, hS1, Below.refl _ _⟩, hK _ ?_⟩
            clear hK hD1 hS1 K w1
            refine relSeq_on rfl (fun K hK w1 hS1 hD1 => ?_)
            go_simp
            refine ⟨⟨trivial, hS1, Below.refl _ _⟩, hK _ ?_⟩
            clear hK hD1 hS1 K w1
            refine relSeq_on rfl (fun K hK w1 hS1 hD1 => ?_)
            have c0 := (HX.out w1 hS1 2 0).trans (HCS.out 2 x2 rfl 0 _ rfl)
            have c1 := (HX.out w1 hS1 2 1).trans (HCS.out 2 x2 rfl 1 _ rfl)
            have c2 := (HX.out w1 hS1 2 2).trans (HCS.out 2 x2 rfl 2 _ rfl)
            simp at c0 c1 c2
            go_simp
            refine ⟨⟨trivial, hS1, Below.refl _ _⟩, hK _ ?_⟩
            clear hK hD1 c0 c1 c2 hS1 K w1
            refine relSeq_on rfl (fun K hK w1 hS1 hD1 => ?_)
            go_simp
            refine ⟨⟨trivial, hS1, Below.refl _ _⟩, hK _ ?_⟩
            clear hK hD1 hS1 K w1
            refine relSeq_on rfl (fun K hK w1 hS1 hD1 => ?_)
            go_simp
            refine ⟨⟨trivial, hS1, Below.refl _ _⟩, hK _ ?_⟩
            clear hK hD1 hS1 K w1
            refine relSeq_on rfl (fun K hK w1 hS1 hD1 => ?_)
            have c0 := (HX.out w1 hS1 1 0).trans (HCS.out 1 x1 rfl 0 _ rfl)
            have c1 := (HX.out w1 hS1 1 1).trans (HCS.out 1 x1 rfl 1 _ rfl)
            have c2 := (HX.out w1 hS1 1 2).trans (HCS.out 1 x1 rfl 2 _ rfl)
            simp at c0 c1 c2
            go_simp
            refine ⟨⟨trivial, hS1, Below.refl _ _⟩, hK _ ?_⟩
            clear hK hD1 c0 c1 c2 hS1 K w1
            refine relSeq_on rfl (fun K hK w1 hS1 hD1 => ?_)
            go_simp
            refine ⟨(HL2.out w1).mono fun e w2 he => ⟨_, he.1, rfl, HSn.out _ _ hS1 he.2, he.2⟩, fun v hv => ?_⟩
            obtain ⟨_, _, hv⟩ := hv.out
            obtain rfl : v = .bool false := hv
            refine hK _ ?_
            clear hK hD1 hS1 K w1 hv
            refine relSeq_on rfl (fun K hK w1 hS1 hD1 => ?_)
            go_simp
            refine ⟨⟨trivial, hS1, Below.refl _ _⟩, hK _ ?_⟩
            clear hK hD1 hS1 K w1
            refine relSeq_on rfl (fun K hK w1 hS1 hD1 => ?_)
            go_simp
            refine ⟨⟨trivial, hS1, Below.refl _ _⟩, hK _ ?_⟩
            clear hK hD1 hS1 K w1
            refine relSeq_on rfl (fun K hK w1 hS1 hD1 => ?_)
            go_simp
            refine ⟨⟨trivial, hS1, Below.refl _ _⟩, hK _ ?_⟩
            clear hK hD1 hS1 K w1
            refine relSeq_on rfl (fun K hK w1 hS1 hD1 => ?_)
            go_simp
            refine ⟨⟨trivial, hS1, Below.refl _ _⟩, hK _ ?_⟩
            clear hK hD1 hS1 K w1
            refine relSeq_on rfl (fun K hK w1 hS1 hD1 => ?_)
            go_simp
            refine ⟨(HRI.out w1 (HR.out w1 hS1)).mono fun e w2 he => ⟨_, he.1, rfl, HSn.out _ _ hS1 he.2, he.2⟩, fun v hv => ?_⟩
            obtain ⟨_, _, hv⟩ := hv.out
            obtain rfl : v = .bool true := hv
            refine hK _ ?_
            clear hK hD1 hS1 K w1 hv
            refine relSeq_on rfl (fun K hK w1 hS1 hD1 => ?_)
            have c0 := (H0.out w1 hS1).cell 0
            have c1 := (H0.out w1 hS1).cell 1
            have c2 := (H0.out w1 hS1).cell 2
            simp at c0 c1 c2
            go_simp
            refine ⟨⟨trivial, hS1, Below.refl _ _⟩, hK _ ?_⟩
            clear hK hD1 c0 c1 c2 hS1 K w1
            refine relSeq_on rfl (fun K hK w1 hS1 hD1 => ?_)
            have c0 := (H1.out w1 hS1).cell 0
            have c1 := (H1.out w1 hS1).cell 1
            have c2 := (H1.out w1 hS1).cell 2
            simp at c0 c1 c2
            go_simp
            refine ⟨⟨trivial, hS1, Below.refl _ _⟩, hK _ ?_⟩
            clear hK hD1 c0 c1 c2 hS1 K w1
            refine relSeq_on rfl (fun K hK w1 hS1 hD1 => ?_)
            go_simp
            simp only [nestF HEab.out]
            refine ⟨⟨trivial, hS1, Below.refl _ _⟩, hK _ ?_⟩
            clear hK hD1 hS1 K w1
            refine relSeq_on rfl (fun K hK w1 hS1 hD1 => ?_)
            go_simp
            refine ⟨⟨trivial, hS1, Below.refl _ _⟩, hK _ ?_⟩
            clear hK hD1 hS1 K w1
            refine relSeq_on rfl (fun K hK w1 hS1 hD1 => ?_)
            have c0 := (H1.out w1 hS1).cell 0
            have c1 := (H1.out w1 hS1).cell 1
            have c2 := (H1.out w1 hS1).cell 2
            simp at c0 c1 c2
            go_simp
            refine ⟨⟨trivial, hS1, Below.refl _ _⟩, hK _ ?_⟩
            clear hK hD1 c0 c1 c2 hS1 K w1
            refine relSeq_on rfl (fun K hK w1 hS1 hD1 => ?_)
            have c0 := (H2.out w1 hS1).cell 0
            have c1 := (H2.out w1 hS1).cell 1
            have c2 := (H2.out w1 hS1).cell 2
            simp at c0 c1 c2
            go_simp
            refine ⟨⟨trivial, hS1, Below.refl _ _⟩, hK _ ?_⟩
            clear hK hD1 c0 c1 c2 hS1 K w1
            refine relSeq_on rfl (fun K hK w1 hS1 hD1 => ?_)
            go_simp
            simp only [nestF HEbc.out]
            refine ⟨⟨trivial, hS1, Below.refl _ _⟩, hK _ ?_⟩
            clear hK hD1 hS1 K w1
            refine relSeq_on rfl (fun K hK w1 hS1 hD1 => ?_)
            go_simp
            refine ⟨⟨trivial, hS1, Below.refl _ _⟩, hK _ ?_⟩
            clear hK hD1 hS1 K w1
            refine relSeq_on rfl (fun K hK w1 hS1 hD1 => ?_)
            go_simp
            refine ⟨⟨trivial, hS1, Below.refl _ _⟩, hK _ ?_⟩
            clear hK hD1 hS1 K w1
            refine relSeq_on rfl (fun K hK w1 hS1 hD1 => ?_)
            have c0 := (H0.out w1 hS1).cell 0
            have c1 := (H0.out w1 hS1).cell 1
            have c2 := (H0.out w1 hS1).cell 2
            simp at c0 c1 c2
            go_simp
            refine ⟨⟨trivial, hS1, Below.refl _ _⟩, hK _ ?_⟩
            clear hK hD1 c0 c1 c2 hS1 K w1
            refine relSeq_on rfl (fun K hK w1 hS1 hD1 => ?_)
            have c0 := (H2.out w1 hS1).cell 0
            have c1 := (H2.out w1 hS1).cell 1
            have c2 := (H2.out w1 hS1).cell 2
            simp at c0 c1 c2
            go_simp
            refine ⟨⟨trivial, hS1, Below.refl _ _⟩, hK _ ?_⟩
            clear hK hD1 c0 c1 c2 hS1 K w1
            refine relSeq_on rfl (fun K hK w1 hS1 hD1 => ?_)
            go_simp
            simp only [nestF HEac.out]
            refine ⟨⟨trivial, hS1, Below.refl _ _⟩, hK _ ?_⟩
            clear hK hD1 hS1 K w1
            refine relSeq_on rfl (fun K hK w1 hS1 hD1 => ?_)
            go_simp
            refine ⟨⟨trivial, hS1, Below.refl _ _⟩, hK _ ?_⟩
            clear hK hD1 hS1 K w1
            refine relSeq_on rfl (fun K hK w1 hS1 hD1 => ?_)
            go_simp
            refine ⟨⟨trivial, hS1, Below.refl _ _⟩, hK _ ?_⟩
            clear hK hD1 hS1 K w1
            refine relSeq_on rfl (fun K hK w1 hS1 hD1 => ?_)
            go_simp
            refine ⟨⟨trivial, hS1, Below.refl _ _⟩, hK _ ?_⟩
            clear hK hD1 hS1 K w1
            refine relSeq_nil ?_
            intro listed w9 hS2 hF2 hl2
            have HF := Lib.hid (HSF.out w9 hS2)
            clear hF2 hl2 HSn H0 H1 H2 HR HX HCS HLT hS2 HSF
            go_wp2
            go_ret
            exact ⟨rfl, HF.out.hb⟩
theorem total_in (a b c : Idn) (w : World) (_ : a.In) (_ : b.In) (_ : c.In) (htab : Tab w) : Calls Tryd.prog 8 #[a.val, b.val, c.val] w (Ret (.bool true) w) := total_any a b c w htab
end Go.Proofs.YtoiaecfiinkmjaaDoor
