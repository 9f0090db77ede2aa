/- vector.Lacks, vector.Many: their contracts. -/
import Derived.Test.YtoiaecfiinkmjaaHeld
import Derived.Test.YtoiaecfiinkmjaaCheck
import Derived.Test.YtoiaecfiinkmjaaHas
namespace Go.Proofs.Ytoiaecfiinkmjaa
open Go.RowKit Go.Shelf
attribute [local go_sem] Oper.semAt_some

/-- a stretch as three numbers. -/
structure Str where
  s : Int
  a : Int
  b : Int
def strCells (L : List Str) : List Value := L.flatMap fun x => [.int .i64 x.s, .int .u64 x.a, .int .u64 x.b]
/-- what one lacks of another one, of some sites. -/
def lackOf (f g : Nat → Int) (ks : List Nat) : List Str := (ks.filter fun k : Nat => decide (f k < g k)).map fun k : Nat => ⟨(k : Int), f k + 1, g k⟩
theorem lackOf_snoc_yes {f g : Nat → Int} {ks : List Nat} {k : Nat} (h : f k < g k) : lackOf f g (ks ++ [k]) = lackOf f g ks ++ [⟨(k : Int), f k + 1, g k⟩] := by simp [lackOf, List.filter_append, h]
theorem lackOf_snoc_no {f g : Nat → Int} {ks : List Nat} {k : Nat} (h : ¬ f k < g k) : lackOf f g (ks ++ [k]) = lackOf f g ks := by simp [lackOf, List.filter_append, h]
theorem strCells_snoc (L : List Str) (x : Str) : strCells (L ++ [x]) = strCells L ++ [.int .i64 x.s, .int .u64 x.a, .int .u64 x.b] := by simp [strCells]
theorem lackOf_length (f g : Nat → Int) (ks : List Nat) : (lackOf f g ks).length ≤ ks.length := by unfold lackOf; rw [List.length_map]; exact List.length_filter_le _ _

theorem infoStr : (Try.prog.info? 36).map (fun i => (i.zero, i.size, i.bytes)) = some (some (.agg #[.int .i64 0, .int .u64 0, .int .u64 0]), 3, 24) := by kernel_rfl

theorem own_below {w w' : World} {B e size n : Nat} {v : Value} {xs : List Value} (h : w.ownsRow B e size v n xs) (hb : Below w.heap.size w w') : w'.ownsRow B e size v n xs := by
  refine ⟨h.1, ?_⟩
  rcases h.2 with hn | ⟨g, cap, cur, rfl, hg, hgg, rest⟩
  · exact .inl hn
  · exact .inr ⟨g, cap, cur, rfl, hg, by rw [hb.block g (Array.getElem?_eq_some_iff.1 hgg).1]; exact hgg, rest⟩
theorem kept_of_below {W W' : World} (h : Below W.heap.size W W') : KeepsOthers W W' := ⟨h.size, fun k _ hk _ => by rw [h.block k (Array.getElem?_eq_some_iff.1 hk).1]; exact hk⟩

theorem appended2 {W w1 : World} {n₀ B : Nat} {t e : TypeId} {size : Nat} {v v' : Value} {k m : Nat} {xs ys : List Value}
    (hv : Boxed W B t v) (hte : t ≠ e) (hrow : W.ownsRow n₀ e size v k xs) (hn₀ : n₀ ≤ W.heap.size) (hB : n₀ ≤ B)
    (hown' : w1.ownsRow n₀ e size v' m ys) (hgrow : W.grownBy w1 v.ownBlock) :
    Boxed w1 B t v ∧ Boxed (w1.setCell ⟨B, 0, none⟩ v') B t v' ∧ (w1.setCell ⟨B, 0, none⟩ v').ownsRow n₀ e size v' m ys ∧ KeepsOthers W (w1.setCell ⟨B, 0, none⟩ v') ∧ Below n₀ W (w1.setCell ⟨B, 0, none⟩ v') := by
  have hv1 : Boxed w1 B t v := hv.kept hgrow (hv.not_row hte hrow)
  refine ⟨hv1, hv1.set v', hown'.kept (grownBy_setCell' w1 B v') (.inr (hv1.not_row hte hown').symm), ?_, ?_⟩
  · refine (KeepsOthers.of_grownBy hgrow fun j o ej hj => ?_).trans (KeepsOthers.setCell _ _ _)
    rcases hrow.2 with ⟨rfl, _⟩ | ⟨g, cap, cur, rfl, _, hgb, _⟩
    · simp [Value.ownBlock] at ej
    · obtain rfl : g = j := by simpa [Value.ownBlock] using ej
      rw [hgb] at hj; cases hj; rfl
  · refine ((Below.refl n₀ W).grown hgrow hn₀ fun j ej => ?_).setCell (p := ⟨B, 0, none⟩) hB v'
    rcases hrow.2 with ⟨rfl, _⟩ | ⟨g, cap, cur, rfl, hb, _, _⟩
    · simp [Value.ownBlock] at ej
    · obtain rfl : g = j := by simpa [Value.ownBlock] using ej
      exact hb
theorem Blk.not_row {W : World} {B : Nat} {t e : TypeId} {cs : Array Value} (h : Blk W B t cs) (hte : t ≠ e) {base size k : Nat} {v : Value} {xs : List Value} (hr : W.ownsRow base e size v k xs) : some B ≠ v.ownBlock := by
  rcases hr.2 with ⟨rfl, _⟩ | ⟨g, cap, cur, rfl, _, hgb, _⟩
  · simp [Value.ownBlock]
  · intro e'
    obtain rfl : B = g := by simpa [Value.ownBlock] using e'
    have := (show W.heap[B]? = _ from h).symm.trans hgb
    simp at this
    exact hte this.2

/-- a slice of stretches of the call's own. -/
def StrOwn (n0 : Nat) (W : World) (v : Value) (L : List Str) : Prop := W.ownsRow n0 36 3 v L.length (strCells L) ∧ (v = .slice none 0 0 ↔ L = [])

set_option maxRecDepth 100000 in
set_option maxHeartbeats 2000000 in
theorem Lacks_ok (f g : Nat → Int) (hpf : posV f) (w : World) (hf : okVec f = true) (hg : okVec g = true) :
    Calls Try.prog 11 #[vec f, vec g] w fun e w' => ∃ v, e = .returned v ∧ StrOwn w.heap.size w' v (lackOf f g [1,2,3,4,5,6,7,8]) ∧ Below w.heap.size w w' := by
  refine (callsIn_wide (n := 10)).1 ?_
  refine callsIn_of_wp_marks Try.func11 rfl trivial ?_ rfl
  refine wpIn_wide.2 ?_
  simp only [Try.ntmps11, List.size_toArray, List.length_cons, List.length_nil, Nat.reduceAdd, Nat.reduceSub, Array.replicate_succ, Array.replicate_zero, List.push_toArray, List.append_toArray, List.nil_append, List.cons_append]
  have k0 := (Blk.new w 24 (vecC f)).alloc (.cells (vecC g) 24)
  have k1 := Blk.new (w.alloc (.cells (vecC f) 24)) 24 (vecC g)
  rw [World.size_alloc] at k1
  have K0 := Lib.hid k0
  have K1 := Lib.hid k1
  clear k0 k1
  unfold vec
  go_wp2_with fail
  refine (Check_ok f hf _).mono ?_
  rintro e W1 ⟨rfl, hb1⟩
  have L0 := Lib.hid (K0.out.below hb1 (by simp; omega))
  have L1 := Lib.hid (K1.out.below hb1 (by simp))
  have HB1 : Hid (Below w.heap.size w W1) := Below.trans (by go_grown) (hb1.mono (by simp; omega))
  clear hb1 K0 K1
  have c1 := fun k (hk : k < 9) => (L1.out.cell k).trans (vecC_get g hk)
  have d0 := c1 0 (by omega); have d1 := c1 1 (by omega); have d2 := c1 2 (by omega); have d3 := c1 3 (by omega); have d4 := c1 4 (by omega); have d5 := c1 5 (by omega); have d6 := c1 6 (by omega); have d7 := c1 7 (by omega); have d8 := c1 8 (by omega)
  clear c1
  go_wp2_with fail
  refine (Check_ok g hg _).mono ?_
  rintro e W2 ⟨rfl, hb2⟩
  have M0 := Lib.hid (L0.out.below hb2 L0.out.lt)
  have M1 := Lib.hid (L1.out.below hb2 L1.out.lt)
  have HB2 := Lib.hid (HB1.out.trans (hb2.mono HB1.out.size))
  have m1 := (M1.out.alloc (.cells #[.slice none 0 0] 31))
  have c1 := fun k (hk : k < 9) => (m1.cell k).trans (vecC_get g hk)
  clear hb2 d0 d1 d2 d3 d4 d5 d6 d7 d8 L0 L1
  have d0 := c1 0 (by omega); have d1 := c1 1 (by omega); have d2 := c1 2 (by omega); have d3 := c1 3 (by omega); have d4 := c1 4 (by omega); have d5 := c1 5 (by omega); have d6 := c1 6 (by omega); have d7 := c1 7 (by omega); have d8 := c1 8 (by omega)
  clear c1 m1
  go_wp2_with (go_at_call 40; refine (sites_any _ _).mono ?_; rintro e w' ⟨rfl, rfl⟩)
  have B1 := Boxed.new W2 31 (.slice none 0 0)
  have B2 := (B1.alloc (.cells (vecC g) 67)).alloc (.cells #[.pointer (some ⟨W2.heap.size + 1, 0, none⟩)] 65)
  have V2 := ((M0.out.alloc (.cells #[.slice none 0 0] 31)).alloc (.cells (vecC g) 67)).alloc (.cells #[.pointer (some ⟨W2.heap.size + 1, 0, none⟩)] 65)
  have H2 := (Blk.new (W2.alloc (.cells #[.slice none 0 0] 31)) 67 (vecC g)).alloc (.cells #[.pointer (some ⟨W2.heap.size + 1, 0, none⟩)] 65)
  have P2 := Blk.new ((W2.alloc (.cells #[.slice none 0 0] 31)).alloc (.cells (vecC g) 67)) 65 #[.pointer (some ⟨W2.heap.size + 1, 0, none⟩)]
  have hn0 : w.heap.size + 2 ≤ W2.heap.size := M1.out.lt |> fun h => by omega
  have BB2 : Below w.heap.size w (((W2.alloc (.cells #[.slice none 0 0] 31)).alloc (.cells (vecC g) 67)).alloc (.cells #[.pointer (some ⟨W2.heap.size + 1, 0, none⟩)] 65)) :=
    ((HB2.out.alloc (by omega) _).alloc (by simp; omega) _).alloc (by simp; omega) _
  rw [World.size_alloc] at H2
  rw [World.size_alloc, World.size_alloc] at P2
  have hz : (((W2.alloc (.cells #[.slice none 0 0] 31)).alloc (.cells (vecC g) 67)).alloc (.cells #[.pointer (some ⟨W2.heap.size + 1, 0, none⟩)] 65)).heap.size = W2.heap.size + 3 := by simp
  clear B1 d0 d1 d2 d3 d4 d5 d6 d7 d8
  unfold vecC at B2 H2 P2 BB2 hz
  generalize hx : World.alloc _ (.cells #[.pointer (some ⟨W2.heap.size + 1, 0, none⟩)] 65) = W0 at B2 H2 P2 BB2 hz ⊢
  have V0 : Blk W0 w.heap.size 24 (vecC f) := by rw [← hx]; exact V2
  clear V2 hx
  refine wpIn_wide.1 (wpIn_rangeFunc_ownF (n := 10) rfl (by omega) (gf := 49) (lb := #[.pointer (some ⟨W2.heap.size + 2, 0, none⟩)]) rfl trivial (enters_of Try.func49 (by kernel_rfl) rfl)
    (sites1_stopsS (10 - 1) (by omega) (W2.heap.size + 2) (W2.heap.size + 1) g W0 (by simpa using P2.cell 0) (by omega) (by omega) (fun k hk => (H2.cell k).trans (vecC_get g hk))) (fun _ _ => trivial) (fun _ _ _ _ _ _ _ _ => trivial) (Below.refl _ _) (fun _ => rfl)
    (fun (pre : List Site) W => ((∃ v, Boxed W W2.heap.size 31 v ∧ W.ownsRow w.heap.size 36 3 v (lackOf f g (pre.map (·.1))).length (strCells (lackOf f g (pre.map (·.1)))) ∧ (v = .slice none 0 0 ↔ lackOf f g (pre.map (·.1)) = [])) ∧ Blk W w.heap.size 24 (vecC f)) ∧ Below w.heap.size w W)
    (fun _ _ _ => False)
    (OwnFrom.and (OwnFrom.and (Own.from (holdsRow_own w.heap.size W2.heap.size 31 36 3 (fun pre : List Site => (lackOf f g (pre.map (·.1))).length) (fun pre : List Site => strCells (lackOf f g (pre.map (·.1)))) (fun (pre : List Site) v => v = .slice none 0 0 ↔ lackOf f g (pre.map (·.1)) = [])) _) (Own.from (Blk.own w.heap.size 24 (fun _ => vecC f)) _)) (ownFrom_below (Nat.le_refl _) (by omega)))
    (fun _ _ _ _ _ hs _ _ => hs)
    ⟨⟨⟨_, B2, by simpa [lackOf, strCells] using World.ownsRow_nil W0 w.heap.size 36 3, by simp [lackOf]⟩, V0⟩, BB2⟩ ?act ?assign ?body ?done ?stop)
  case assign =>
    intro l x W K hK
    gi_wp2
    exact hK
  case body =>
    rintro l pre x W ⟨⟨⟨v, hv, hrow, hnil⟩, hV⟩, hB⟩ hlen
    have hx9 := x.2.2
    have hs0 : (0 : Int) ≤ (x.1 : Int) := by omega
    have hs1 : (x.1 : Int) < 9 := by omega
    have hcx := (hV.cell x.1).trans (vecC_get f hx9)
    obtain ⟨i0, hi, hz0, hz1, hz2⟩ : ∃ i0, Try.prog.info? 36 = some i0 ∧ i0.zero = some (.agg #[.int .i64 0, .int .u64 0, .int .u64 0]) ∧ i0.size = 3 ∧ i0.bytes = 24 := by
      have h := infoStr
      cases e : Try.prog.info? 36 with
      | none => rw [e] at h; cases h
      | some i0 => rw [e] at h; simp at h; exact ⟨i0, rfl, h⟩
    by_cases hlt : f x.1 < g x.1
    · have hd : decide (f x.1 < g x.1) = true := by simpa using hlt
      have hp := hpf x.1
      have hle : g x.1 ≤ maxT := okVec_le hg hx9
      have hwrap : (IntKind.u64).wrap (f x.1 + 1) = f x.1 + 1 := IntWalk.u64_in _ (by unfold maxT at hle; omega)
      gi_wp2
      obtain ⟨S, hS⟩ : ∃ S : World → Prop, S = fun X => Below W.heap.size W X := ⟨_, rfl⟩
      have HSc : Hid (∀ X, S X → X.cell? ⟨W2.heap.size, 0, none⟩ = some v ∧ X.cell? ⟨w.heap.size, x.1, none⟩ = some (.int .u64 (f x.1))) := by
        intro X hX; rw [hS] at hX
        exact ⟨(hX.cell (p := ⟨W2.heap.size, 0, none⟩) hv.lt).trans hv.cell, (hX.cell (p := ⟨w.heap.size, x.1, none⟩) hV.lt).trans hcx⟩
      have HSn : Hid (∀ X X', S X → Below X.heap.size X X' → S X') := by intro X X' h hb; rw [hS] at h ⊢; exact h.trans (hb.mono h.size)
      have HSd : Hid (∀ X, S X → Below W.heap.size W X) := by intro X hX; rw [hS] at hX; exact hX
      have hS0 : S W.drew := by rw [hS]; exact (Below.refl _ _).drew
      clear hS
      refine wpIn_region_held_rel 9 S (fun k u X => match k with | 8 => ∃ b, u = .slice (some ⟨b, 0, none⟩) 1 1 ∧ Blk X b 36 #[.int .i64 (x.1 : Int), .int .u64 (f x.1 + 1), .int .u64 (g x.1)] | _ => True) (by kernel_rfl) (by kernel_rfl) (by kernel_rfl) (by kernel_rfl) (by kernel_rfl) (fun _ _ h => h) (by
        intro k u X X' hb hF
        match k, hF with
        | 8, ⟨b, e, hb'⟩ => exact ⟨b, e, hb'.below hb hb'.lt⟩
        | 0, _ | 1, _ | 2, _ | 3, _ | 4, _ | 5, _ | 6, _ | 7, _ => trivial
        | (n + 9), _ => trivial) hS0 ?_
      clear hS0
      simp only [List.take_succ_cons, List.take_zero, List.drop_succ_cons, List.drop_zero]
      repeat (refine relSeq_on rfl (fun K hK w1 hS1 hD1 => ?_); obtain ⟨c0, c1⟩ := HSc.out w1 hS1; go_simp; refine ⟨⟨trivial, hS1, Below.refl _ _⟩, hK _ ?_⟩; clear hK hD1 c0 c1 hS1 K w1)
      refine relSeq_on rfl (fun K hK w1 hS1 hD1 => ?_)
      go_simp
      refine ⟨⟨⟨_, rfl, Blk.new _ _ _⟩, HSn.out _ _ hS1 ((Below.refl _ _).alloc (Nat.le_refl _) _), (Below.refl _ _).alloc (Nat.le_refl _) _⟩, hK _ ?_⟩
      generalize w1.heap.size = b8
      clear hK hD1 hS1 K w1
      refine relSeq_nil ?_
      intro listed w2 hS2 hF2 hl2
      have hF8 := hF2 8 _ _ rfl rfl (hl2 8 (by omega))
      obtain ⟨b9, he9, hb9⟩ := hF8
      obtain rfl : b9 = b8 := by simp at he9; exact he9.symm
      have hbw := HSd.out w2 hS2
      clear hF2 hl2 he9 HSc HSn HSd hS2
      have hv2 : Boxed w2 W2.heap.size 31 v := (hbw.block _ hv.lt).trans hv
      have hV2 : Blk w2 w.heap.size 24 (vecC f) := hV.below hbw hV.lt
      have hrow2 := own_below hrow hbw
      have hB2 : Below w.heap.size w w2 := hB.trans (hbw.mono hB.size)
      have hko := kept_of_below hbw
      have hlen8 : (lackOf f g (pre.map (·.1))).length ≤ 8 := Nat.le_trans (lackOf_length _ _ _) (by simp; omega)
      refine wpList_append_own _ rfl _ _ 31 rfl w.heap.size 36 i0 (.agg #[.int .i64 0, .int .u64 0, .int .u64 0]) 3 24 Try.underlying31 hi hz0 hz1 hz2 rfl (by decide) v _ _ rfl hrow2 ⟨b9, 0, none⟩ 1 1 [.int .i64 (x.1 : Int), .int .u64 (f x.1 + 1), .int .u64 (g x.1)] rfl rfl ?news ?one (by unfold maxLen; omega) (by omega) hB2.size ?_
      case news => intro j u hu; rw [show (⟨b9, 0, none⟩ : Addr).add j = ⟨b9, j, none⟩ from by simp [Addr.add]; omega, hb9.cell]; simpa using hu
      case one => intro u hu; simp at hu; rcases hu with rfl | rfl | rfl <;> rfl
      intro v' w3 hown' hgrow' hnil'
      obtain ⟨a1, a2, a3, a4, a5⟩ := appended2 hv2 (by decide) hrow2 hB2.size (by omega) hown' hgrow'
      have a6 : Blk (w3.setCell ⟨W2.heap.size, 0, none⟩ v') w.heap.size 24 (vecC f) := (hV2.kept hgrow' (hV2.not_row (by decide) hrow2)).set_other (by simp; omega) _
      have c1 := a1.cell
      have c2 := a1.frozen
      have hsn : lackOf f g ((pre ++ [x]).map (·.1)) = lackOf f g (pre.map (·.1)) ++ [⟨(x.1 : Int), f x.1 + 1, g x.1⟩] := by rw [List.map_append]; exact lackOf_snoc_yes hlt
      obtain ⟨g1, cap1, rfl⟩ := ownsRow_succ hown'
      have a3' : (w3.setCell ⟨W2.heap.size, 0, none⟩ (.slice (some ⟨g1, 0, none⟩) ((lackOf f g (pre.map (·.1))).length + 1) cap1)).ownsRow w.heap.size 36 3 (.slice (some ⟨g1, 0, none⟩) ((lackOf f g (pre.map (·.1))).length + 1) cap1) (lackOf f g ((pre ++ [x]).map (·.1))).length (strCells (lackOf f g ((pre ++ [x]).map (·.1)))) := by rw [hsn, strCells_snoc, List.length_append]; exact a3
      have hnil2 : (.slice (some ⟨g1, 0, none⟩) ((lackOf f g (pre.map (·.1))).length + 1) cap1 : Value) = .slice none 0 0 ↔ lackOf f g ((pre ++ [x]).map (·.1)) = [] := by rw [hsn]; constructor <;> intro h0 <;> simp at h0
      clear hv2 hV2 hrow2 a1 hgrow'
      go_wp2
      exact ⟨hko.trans a4, trivial, ⟨⟨_, a2, a3', hnil2⟩, a6⟩, hB2.trans a5⟩
    · have hd : decide (f x.1 < g x.1) = false := by simpa using hlt
      have hsn : lackOf f g (pre ++ [x]).unattach = lackOf f g (pre.map (·.1)) := by rw [List.unattach_append]; exact lackOf_snoc_no hlt
      gi_wp2
      exact ⟨KeepsOthers.refl _, trivial, ⟨⟨v, hv, by rw [hsn]; exact hrow, by rw [hsn]; exact hnil⟩, hV⟩, hB⟩
  case done =>
    rintro D ys W hD hys ⟨⟨⟨v, hv, hrow, hnil⟩, hV⟩, hB⟩ hK
    rw [hys] at hrow hnil
    have hcv := hv.cell
    obtain ⟨sp, sn, sc, rfl⟩ : ∃ p n c, v = .slice p n c := by
      rcases hrow.2 with ⟨rfl, _⟩ | ⟨g, cap, cur, rfl, _⟩ <;> exact ⟨_, _, _, rfl⟩
    clear hV
    go_wp2
    exact leavesM_col hK (by simp [results, Try.results11, go_sem]) ⟨_, rfl, ⟨ownsRow_putObj hrow _ hK rfl, hnil⟩, put_below hB (by omega) hK⟩
  case stop =>
    rintro D c pre W _ _ h _
    exact h.elim
end Go.Proofs.Ytoiaecfiinkmjaa
